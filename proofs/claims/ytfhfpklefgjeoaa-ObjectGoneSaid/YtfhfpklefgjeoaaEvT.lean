/- What is owned, and what the operations on memory do to it. Conditions: none. -/
import Derived.Test.YtfhfpklefgjeoaaEvS
import Derived.Test.YtfhfpklefgjeoaaEvQ
namespace Go.Ev
open Go Go.RowKit

section
variable {P : Program} {β w : World} {As Bs : List Asrt} {A B C : Asrt}

theorem Sat.draw {w' : World} (h : Sat β w As) (h1 : w'.heap = w.heap) (h2 : w'.tape = w.tape) (h3 : w'.os = w.os) (h4 : w'.output = w.output) : Sat β w' As := h.same h2 h3 h4 h1

theorem Sat.newK {T : TypeId} {cs : List Value} {K : Nat → World → Prop} (h : Sat β w As) (k : ∀ b w', Sat β w' (row b T cs :: As) → K b w') : New T cs w K :=
  .mk (k _ _ h.newRow)

def setLW : List Asrt → Nat → Asrt → (List Asrt → Prop) → Prop
  | _ :: r, 0, X, k => k (X :: r)
  | A :: r, i + 1, X, k => setLW r i X fun r => k (A :: r)
  | [], _, _, _ => False
theorem setLW_eq : ∀ (As : List Asrt) (i : Nat) (X : Asrt) {k : List Asrt → Prop}, setLW As i X k → k (As.set i X)
  | _ :: _, 0, _, _, h => h
  | _ :: r, i + 1, X, _, h => setLW_eq r i X h
  | [], _, _, _, h => h.elim

theorem set_perm {α : Type} : ∀ (l : List α) (i : Nat) (a x : α), l[i]? = some a → (x :: l.eraseIdx i).Perm (l.set i x)
  | [], i, a, x, h => by simp at h
  | y :: l, 0, a, x, h => by simp
  | y :: l, i + 1, a, x, h => by
    have h' : l[i]? = some a := by simpa using h
    exact (List.Perm.swap _ _ _).trans ((set_perm l i a x h').cons y)

/-- Turn one of what is owned. -/
theorem Sat.turn {w' : World} {X : Asrt} (i : Nat) (hA : As[i]? = some A) (h : Sat β w' (X :: As.eraseIdx i)) : Sat β w' (As.set i X) := h.perm (set_perm As i A X hA)

theorem setCells_run : ∀ (vs : List Value) (b o k : Nat) (T : TypeId) (cs : List Value) (w : World), Sat β w (row b T cs :: As) → o + k + vs.length ≤ cs.length → vs.all Value.oneCell' = true →
    ∃ w', (storeCells ⟨b, o, none⟩ vs k).run P w = .ok () w' ∧ Sat β w' (row b T (repl cs (o + k) vs) :: As)
  | [], b, o, k, T, cs, w, h, _, _ => ⟨w, rfl, by simpa [repl] using h⟩
  | v :: vs, b, o, k, T, cs, w, h, hl, hv => by
    simp only [List.length_cons] at hl
    simp only [List.all_cons, Bool.and_eq_true] at hv
    have hb := h.row_block.1
    have hlt : o + k < cs.length := by omega
    have h1 := h.setCell (o := o + k) (v := v)
    obtain ⟨w', hr, hs⟩ := setCells_run vs b o (k + 1) T (cs.set (o + k) v) _ h1 (by simp; omega) hv.2
    refine ⟨w', ?_, ?_⟩
    · simp only [storeCells, Sem.run_bind, Addr.add_none]
      rw [run_store P w _ v .plain hv.1, cell_of_block hb]
      have : cs.toArray[o + k]? = some cs[o + k] := by simp [hlt]
      simp only [this]
      rw [if_neg (by rw [frozen_of_block hb]; simp)]
      exact hr
    · have e : repl (cs.set (o + k) v) (o + (k + 1)) vs = repl cs (o + k) (v :: vs) := by
        simp only [repl, List.length_cons]
        rw [show o + (k + 1) = (o + k) + 1 by omega, List.take_add_one, List.drop_set_of_lt (by omega)]
        rw [List.take_set, List.getElem?_set_self (by simpa using hlt)]
        have ht : (List.take (o + k) cs).set (o + k) v = List.take (o + k) cs := List.set_eq_of_length_le (by simp; omega)
        rw [ht]
        simp [show o + k + 1 + vs.length = o + k + (vs.length + 1) by omega]
      rw [← e]; exact hs

/-- A store into one of what is owned. -/
theorem Sat.storeN {b o : Nat} {T t : TypeId} {cs : List Value} {v : Value} {K : Unit → World → Prop} {inf : TypeInfo} (i : Nat) (h : Sat β w As) (hA : As[i]? = some (row b T cs)) (hi : P.info? t = some inf)
    (hn : (vcells v).length = inf.size) (hv : (vcells v).all Value.oneCell' = true) (hl : o + (vcells v).length ≤ cs.length)
    (k : ∀ w', Sat β w' (As.set i (row b T (repl cs o (vcells v)))) → K () w') : Runs P (Instr.storeAt t (.pointer (some ⟨b, o, none⟩)) v) w K := by
  obtain ⟨w', hr, hs⟩ := setCells_run (P := P) (vcells v) b o 0 T cs w (h.front i hA) (by omega) hv
  refine .mk () w' ?_ (k w' (Sat.turn i hA hs))
  simp only [Instr.storeAt, Instr.sureAddr, Sem.run_bind, Sem.run_pure, Result.andThen_ok, storeVar, run_siz hi]
  rw [if_neg (by rw [vcells_size, hn]; simp), vcells_eq]
  exact hr
/-- The same, where the cells are written out. -/
theorem Sat.store {b o : Nat} {T t : TypeId} {cs : List Value} {v : Value} {K : Unit → World → Prop} {inf : TypeInfo} (i : Nat) (h : Sat β w As) (hA : As[i]? = some (row b T cs)) (hi : P.info? t = some inf)
    (hn : Nat.beq (vcells v).length inf.size = true) (hv : (vcells v).all Value.oneCell' = true) (hl : Nat.ble (o + (vcells v).length) cs.length = true)
    (k : replW cs o (vcells v) fun cs' => setLW As i (row b T cs') fun As' => ∀ w', Sat β w' As' → K () w') : Runs P (Instr.storeAt t (.pointer (some ⟨b, o, none⟩)) v) w K :=
  h.storeN i hA hi (Nat.eq_of_beq_eq_true hn) hv (Nat.le_of_ble_eq_true hl) (setLW_eq _ _ _ (replW_eq _ _ _ k).2)

/-- A slice that reads as a list, each of whose elements takes sz cells. -/
def Rds {α : Type} (β : World) (As : List Asrt) (sz : Nat) (enc : α → List Value) (a : Option Addr) (l : List α) : Prop :=
  ∀ i x, l[i]? = some x → okA a ∧ ∀ j, j < sz → ∀ w, Sat β w As → w.cell? ⟨blk a, off a + i * sz + j, none⟩ = (enc x)[j]?

theorem Rds.nil {α : Type} {sz : Nat} {enc : α → List Value} {a : Option Addr} : Rds β As sz enc a ([] : List α) := fun i x h => by simp at h
theorem Rds.weak {α : Type} {sz : Nat} {enc : α → List Value} {a : Option Addr} {l : List α} (hr : Rds β As sz enc a l) (hb : ∀ w, Sat β w Bs → Sat β w As) : Rds β Bs sz enc a l :=
  fun i x h => ⟨(hr i x h).1, fun j hj w hw => (hr i x h).2 j hj w (hb w hw)⟩
theorem Rds.cons {α : Type} {sz : Nat} {enc : α → List Value} {a : Option Addr} {l : List α} (hr : Rds β As sz enc a l) : Rds β (A :: As) sz enc a l := hr.weak fun _ h => h.tail
theorem Rds.ok {α : Type} {sz : Nat} {enc : α → List Value} {a : Option Addr} {l : List α} {i : Nat} {x : α} (hr : Rds β As sz enc a l) (h : l[i]? = some x) : okA a := (hr i x h).1
theorem Rds.okLt {α : Type} {sz : Nat} {enc : α → List Value} {a : Option Addr} {l : List α} {i : Nat} (hr : Rds β As sz enc a l) (h : i < l.length) : okA a := hr.ok (List.getElem?_eq_getElem h)
/-- One cell of an element. -/
theorem Rds.ld {α : Type} {sz : Nat} {enc : α → List Value} {a : Option Addr} {l : List α} {i j : Nat} {x : α} {v : Value} {K : Value → Prop} {q : Nat} (hr : Rds β As sz enc a l) (hs : Sat β w As) (h : l[i]? = some x)
    (hj : j < sz) (hv : (enc x)[j]? = some v) (hq : q = off a + i * sz + j) (k : K v) : Ld w ⟨blk a, q, none⟩ K := by
  subst hq
  exact .mk v (by rw [(hr i x h).2 j hj w hs, hv]) k
/-- An element, whole. -/
theorem Rds.ldN {α : Type} {sz : Nat} {enc : α → List Value} {a : Option Addr} {l : List α} {i : Nat} {x : α} {K : List Value → Prop} {q : Nat} (hr : Rds β As sz enc a l) (hs : Sat β w As) (h : l[i]? = some x)
    (hl : (enc x).length = sz) (hq : q = off a + i * sz) (k : K (enc x)) : LdN w ⟨blk a, q, none⟩ sz K := by
  subst hq
  exact .mk (enc x) hl (fun j hj => by rw [Addr.add_none]; exact (hr i x h).2 j hj w hs) k

theorem Rds.take {α : Type} {sz : Nat} {enc : α → List Value} {a : Option Addr} {l : List α} (hr : Rds β As sz enc a l) (n : Nat) : Rds β As sz enc a (l.take n) :=
  fun i x h => hr i x (by
    rw [List.getElem?_take] at h
    split at h
    · exact h
    · cases h)

/-- A row that is owned, as a list, with room behind it. -/
def Own {α : Type} (T : TypeId) (sz : Nat) (enc : α → List Value) (a : Option Addr) (c : Nat) (l : List α) : Asrt := fun h =>
  (l = [] ∧ c = 0 ∧ h = []) ∨ ∃ b o pre post, a = some ⟨b, o, none⟩ ∧ row b T (pre ++ l.flatMap enc ++ post) h ∧ pre.length = o ∧ l.length ≤ c ∧ post.length = (c - l.length) * sz ∧ (∀ x ∈ l, (enc x).length = sz)

theorem flatMap_get {α : Type} {sz : Nat} {enc : α → List Value} : ∀ (l : List α) (i j : Nat) (x : α), (∀ x ∈ l, (enc x).length = sz) → l[i]? = some x → j < sz → (l.flatMap enc)[i * sz + j]? = (enc x)[j]?
  | [], i, j, x, _, h, _ => by simp at h
  | y :: l, 0, j, x, hs, h, hj => by
    simp at h; subst h
    simp only [List.flatMap_cons, Nat.zero_mul, Nat.zero_add]
    rw [List.getElem?_append_left (by rw [hs y (by simp)]; exact hj)]
  | y :: l, i + 1, j, x, hs, h, hj => by
    have h' : l[i]? = some x := by simpa using h
    simp only [List.flatMap_cons]
    rw [List.getElem?_append_right (by rw [hs y (by simp), Nat.succ_mul]; omega), hs y (by simp)]
    rw [← flatMap_get l i j x (fun z hz => hs z (by simp [hz])) h' hj]
    congr 1; rw [Nat.succ_mul]; omega
theorem flatMap_length {α : Type} {sz : Nat} {enc : α → List Value} : ∀ (l : List α), (∀ x ∈ l, (enc x).length = sz) → (l.flatMap enc).length = l.length * sz
  | [], _ => by simp
  | y :: l, hs => by
    simp only [List.flatMap_cons, List.length_append, List.length_cons, Nat.succ_mul]
    rw [hs y (by simp), flatMap_length l fun z hz => hs z (by simp [hz])]; omega

theorem Sat.own_cases {α : Type} {T : TypeId} {sz : Nat} {enc : α → List Value} {a : Option Addr} {c : Nat} {l : List α} (h : Sat β w (Own T sz enc a c l :: As)) :
    (l = [] ∧ c = 0 ∧ Sat β w As) ∨ ∃ b o pre post, a = some ⟨b, o, none⟩ ∧ Sat β w (row b T (pre ++ l.flatMap enc ++ post) :: As) ∧ pre.length = o ∧ l.length ≤ c ∧ post.length = (c - l.length) * sz ∧ (∀ x ∈ l, (enc x).length = sz) := by
  obtain ⟨hb, hh, ⟨h1, h2, rfl, ho, hs⟩, hf⟩ := h.out
  rcases ho with ⟨h3, h4, rfl⟩ | ⟨b, o, pre, post, ha, hr, r⟩
  · exact .inl ⟨h3, h4, .mk' hb h2 hs (by simpa using hf)⟩
  · exact .inr ⟨b, o, pre, post, ha, .mk' hb _ ⟨h1, h2, rfl, hr, hs⟩ hf, r⟩
theorem Sat.own_row {α : Type} {T : TypeId} {sz : Nat} {enc : α → List Value} {b o c : Nat} {pre post : List Value} {l : List α} (h : Sat β w (row b T (pre ++ l.flatMap enc ++ post) :: As))
    (ho : pre.length = o) (hc : l.length ≤ c) (hp : post.length = (c - l.length) * sz) (he : ∀ x ∈ l, (enc x).length = sz) : Sat β w (Own T sz enc (some ⟨b, o, none⟩) c l :: As) := by
  obtain ⟨hb, hh, ⟨h1, h2, rfl, hr, hs⟩, hf⟩ := h.out
  exact .mk' hb _ ⟨h1, h2, rfl, .inr ⟨b, o, pre, post, rfl, hr, ho, hc, hp, he⟩, hs⟩ hf
theorem Sat.own_nil {α : Type} {T : TypeId} {sz : Nat} {enc : α → List Value} {a : Option Addr} (h : Sat β w As) : Sat β w (Own T sz enc a 0 ([] : List α) :: As) := by
  obtain ⟨hb, hh, hs, hf⟩ := h.out
  exact .mk' hb ([] ++ hh) ⟨[], hh, rfl, .inl ⟨rfl, rfl, rfl⟩, hs⟩ (by simpa using hf)

theorem Own.rds {α : Type} {T : TypeId} {sz : Nat} {enc : α → List Value} {a : Option Addr} {c : Nat} {l : List α} (i : Nat) (hA : As[i]? = some (Own T sz enc a c l)) (hw : ∃ w, Sat β w As) : Rds β As sz enc a l := by
  intro k x hx
  have key : ∀ w, Sat β w As → okA a ∧ ∀ j, j < sz → w.cell? ⟨blk a, off a + k * sz + j, none⟩ = (enc x)[j]? := by
    intro w hs
    rcases (hs.front i hA).own_cases with ⟨rfl, _⟩ | ⟨b, o, pre, post, rfl, hr, ho, hc, hp, he⟩
    · simp at hx
    · refine ⟨⟨b, o, rfl⟩, fun j hj => ?_⟩
      have hk : k < l.length := (List.getElem?_eq_some_iff.1 hx).1
      have hfl := flatMap_length l he
      have hlt : k * sz + j < l.length * sz := by
        calc k * sz + j < k * sz + sz := by omega
          _ = (k + 1) * sz := by rw [Nat.succ_mul]
          _ ≤ l.length * sz := Nat.mul_le_mul_right _ hk
      show w.cell? ⟨b, o + k * sz + j, none⟩ = _
      rw [cell_of_block hr.row_block.1, List.getElem?_toArray]
      rw [List.append_assoc, List.getElem?_append_right (by omega), List.getElem?_append_left (by rw [hfl]; omega)]
      rw [← flatMap_get l k j x he hx hj]
      congr 1; omega
  obtain ⟨w0, h0⟩ := hw
  exact ⟨(key w0 h0).1, fun j hj w hw => (key w hw).2 j hj⟩
theorem Sat.rds {α : Type} {T : TypeId} {sz : Nat} {enc : α → List Value} {a : Option Addr} {c : Nat} {l : List α} (i : Nat) (h : Sat β w As) (hA : As[i]? = some (Own T sz enc a c l)) : Rds β As sz enc a l := Own.rds i hA ⟨w, h⟩
/-- A new row, written out, is owned as a list. -/
theorem Sat.own_of {α : Type} {T : TypeId} {sz : Nat} {enc : α → List Value} {b : Nat} {cs : List Value} (l : List α) (h : Sat β w (row b T cs :: As)) (hl : l.flatMap enc = cs) (he : ∀ x ∈ l, (enc x).length = sz) :
    Sat β w (Own T sz enc (some ⟨b, 0, none⟩) l.length l :: As) := by
  refine Sat.own_row (pre := []) (post := []) (by simpa [hl] using h) rfl (Nat.le_refl _) (by simp) he

theorem Rds.cells {α : Type} {sz : Nat} {enc : α → List Value} {a : Option Addr} {l : List α} (hr : Rds β As sz enc a l) (he : ∀ x ∈ l, (enc x).length = sz) (hs : Sat β w As) (j : Nat) (hj : j < l.length * sz) :
    w.cell? ⟨blk a, off a + j, none⟩ = (l.flatMap enc)[j]? := by
  have hz : 0 < sz := by
    rcases Nat.eq_zero_or_pos sz with h | h
    · rw [h] at hj; simp at hj
    · exact h
  have hi : j / sz < l.length := Nat.div_lt_of_lt_mul (by rw [Nat.mul_comm]; exact hj)
  have hr' : j % sz < sz := Nat.mod_lt _ hz
  have hx : l[j / sz]? = some l[j / sz] := List.getElem?_eq_getElem hi
  have h1 := (hr (j / sz) _ hx).2 (j % sz) hr' w hs
  have h2 := flatMap_get l (j / sz) (j % sz) _ he hx hr'
  have e : j / sz * sz + j % sz = j := by rw [Nat.mul_comm]; exact Nat.div_add_mod j sz
  rw [e] at h2
  rw [h2, ← h1, Nat.add_assoc, e]

theorem firstCells_run {α : Type} {sz : Nat} {enc : α → List Value} {a : Option Addr} {l : List α} {n c : Nat} (hr : Rds β As sz enc a l) (he : ∀ x ∈ l, (enc x).length = sz) (hs : Sat β w As) :
    (Builtin.firstCells sz l.length (.slice a n c)).run P w = .ok (l.flatMap enc).toArray w := by
  cases l with
  | nil =>
    cases a with
    | none => rfl
    | some a => simp [Builtin.firstCells, loadCells, loadCellsFrom]
  | cons x r =>
    obtain ⟨b, o, rfl⟩ := hr.okLt (i := 0) (by simp)
    simp only [Builtin.firstCells, loadCells]
    rw [run_loadCellsFrom (P := P) (w := w) ((x :: r).length * sz) 0 ((x :: r).flatMap enc) #[] (flatMap_length _ he) (fun j hj => by
      rw [Nat.zero_add, Addr.add_none]
      exact hr.cells he hs j hj)]
    simp

theorem nextcap_le (need c : Nat) (h : c < need) : Builtin.nextslicecap need c ≤ 2 * need + 192 := by
  unfold Builtin.nextslicecap
  split
  · omega
  · split
    · omega
    · have grow : ∀ r c, c ≤ 2 * need + 192 → Builtin.growBy need r c ≤ 2 * need + 192 := by
        intro r
        induction r with
        | zero => intro c hc; exact hc
        | succ r ih =>
          intro c hc
          simp only [Builtin.growBy]
          split
          · exact hc
          · exact ih _ (by omega)
      exact grow 4 c (by omega)

/-- 'append(s, xs...)', of a slice that is owned. -/
theorem Sat.append {α : Type} {T st xt ty : TypeId} {sz : Nat} {enc : α → List Value} {a ax : Option Addr} {c cx : Nat} {l xs : List α} {K : Value → World → Prop} {inf : TypeInfo} {z : Value} {T2 : TypeId}
    (h : Sat β w (Own T sz enc a c l :: As)) (hu : P.underlying st = some (.slice T)) (hux : P.underlying xt = some (.slice T2)) (hi : P.info? T = some inf) (hbn : inf.bytes ≠ 0) (hsz : inf.size = sz) (hz : inf.zero = some z) (hzl : (vcells z).length = sz)
    (hr : Rds β (Own T sz enc a c l :: As) sz enc ax xs) (he : ∀ x, (enc x).length = sz) (hone : ∀ x, (enc x).all Value.oneCell' = true) (hbd : (2 * (l.length + xs.length) + 192) * inf.bytes ≤ 2 ^ 48)
    (k : ∀ a' c' w', Sat β w' (Own T sz enc a' c' (l ++ xs) :: As) → K (.slice a' (l.length + xs.length) c') w') :
    Runs P (Builtin.append_ #[st, xt] ty #[.slice a l.length c, .slice ax xs.length cx]) w K := by
  have hzero : ∀ w, (zeroValue T).run P w = .ok z w := fun w => by simp [zeroValue, run_inf hi, hz]
  have hx := firstCells_run (P := P) (w := w) (n := xs.length) (c := cx) hr (fun x _ => he x) h
  by_cases hfit : l.length + xs.length ≤ c
  · -- it fits
    have hnew : ∀ w', Sat β w' (Own T sz enc a c (l ++ xs) :: As) → (match a with | some p => (storeCells (p.add (l.length * sz)) (xs.flatMap enc)).run P w = .ok () w' | none => w' = w) →
        Runs P (Builtin.append_ #[st, xt] ty #[.slice a l.length c, .slice ax xs.length cx]) w K := by
      intro w' hs' hrun
      refine .mk _ w' ?_ (k a c w' hs')
      unfold Builtin.append_
      simp only [Sem.run_bind, run_und hu, Result.andThen_ok, run_siz hi, hsz, run_und hux, Builtin.lenOf, Sem.run_pure, Bool.false_eq_true, if_false, Bool.not_false, if_true, hfit, hx,
        show (#[st, xt] : Array TypeId)[0]? = some st from rfl, show (#[st, xt] : Array TypeId)[1]? = some xt from rfl, show (#[Value.slice a l.length c, Value.slice ax xs.length cx] : Array Value)[0]? = some (.slice a l.length c) from rfl,
        show (#[Value.slice a l.length c, Value.slice ax xs.length cx] : Array Value)[1]? = some (.slice ax xs.length cx) from rfl]
      cases a with
      | none => simp at hrun; subst hrun; simp
      | some p => simp only at hrun; simp [hrun]
    rcases h.own_cases with ⟨rfl, rfl, hs⟩ | ⟨b, o, pre, post, rfl, hs, ho, hc, hp, hel⟩
    · have hx0 : xs = [] := by simpa using hfit
      subst hx0
      refine hnew w (by simpa using hs.own_nil) ?_
      cases a with
      | none => rfl
      | some p => rfl
    · have hfl := flatMap_length l hel
      have hflx : (xs.flatMap enc).length = xs.length * sz := flatMap_length xs fun x _ => he x
      have hpost : xs.length * sz ≤ post.length := by
        rw [hp]; exact Nat.mul_le_mul_right _ (by omega)
      have hall : (xs.flatMap enc).all Value.oneCell' = true := by
        rw [List.all_eq_true]
        intro v hv
        obtain ⟨x, _, hxv⟩ := List.mem_flatMap.1 hv
        exact List.all_eq_true.1 (hone x) v hxv
      obtain ⟨w', hrun, hs'⟩ := setCells_run (P := P) (xs.flatMap enc) b (o + l.length * sz) 0 T _ w hs (by simp [hfl, hflx]; omega) hall
      refine hnew w' ?_ (by simpa [Addr.add_none] using hrun)
      have e : repl (pre ++ l.flatMap enc ++ post) (o + l.length * sz + 0) (xs.flatMap enc) = pre ++ (l ++ xs).flatMap enc ++ post.drop (xs.length * sz) := by
        have hpl : (pre ++ l.flatMap enc).length = o + l.length * sz := by simp [ho, hfl]
        simp only [repl, Nat.add_zero]
        rw [← hpl, List.take_left, hflx]
        rw [List.drop_append, List.drop_of_length_le (by omega)]
        simp [List.flatMap_append]
      rw [e] at hs'
      refine Sat.own_row hs' ho (by simp; omega) ?_ (fun x hx => he x)
      simp only [List.length_drop, hp, List.length_append]
      rw [← Nat.sub_mul]
      congr 1; omega
  · -- it grows
    have hneed : c < l.length + xs.length := by omega
    have hcap := nextcap_le (l.length + xs.length) c hneed
    have hcap2 : ¬ (Builtin.nextslicecap (l.length + xs.length) c * inf.bytes > 2 ^ 48) := by
      have := Nat.mul_le_mul_right inf.bytes hcap
      omega
    have hl := fun w => firstCells_run (P := P) (w := w) (n := l.length) (c := c) (h.rds 0 rfl) (fun x _ => he x)
    let w1 : World := { w with drawn := w.drawn + 1 }
    have h1 : Sat β w1 (Own T sz enc a c l :: As) := h.drew
    let cap := (Question.appendCap (l.length + xs.length) c T).cut (w.tape w.drawn (Question.appendCap (l.length + xs.length) c T))
    have hcapge : l.length + xs.length ≤ cap := by show _ ≤ Question.cut _ _; simp [Question.cut]
    have hx1 := firstCells_run (P := P) (w := w1) (n := xs.length) (c := cx) hr (fun x _ => he x) h1
    have hl1 := hl w1 h1
    let cells : Array Value := (l.flatMap enc).toArray ++ (xs.flatMap enc).toArray ++ Builtin.zeroCells z.cells (cap - (l.length + xs.length))
    refine .mk (.slice (some ⟨w1.heap.size, 0, none⟩) (l.length + xs.length) cap) { w1 with heap := w1.heap.push (.cells cells T) } ?_ (k _ _ _ ?_)
    · unfold Builtin.append_
      simp only [Sem.run_bind, run_und hu, Result.andThen_ok, run_siz hi, hsz, run_und hux, Builtin.lenOf, Sem.run_pure, Bool.false_eq_true, if_false, Bool.not_false, if_true, hfit, run_inf hi, false_or,
        show (#[st, xt] : Array TypeId)[0]? = some st from rfl, show (#[st, xt] : Array TypeId)[1]? = some xt from rfl, show (#[Value.slice a l.length c, Value.slice ax xs.length cx] : Array Value)[0]? = some (.slice a l.length c) from rfl,
        show (#[Value.slice a l.length c, Value.slice ax xs.length cx] : Array Value)[1]? = some (.slice ax xs.length cx) from rfl]
      rw [if_neg (fun hh => hbn hh.2)]
      simp only [Sem.run_bind, run_inf hi, Result.andThen_ok]
      rw [if_neg hcap2]
      have hch : (choose (Question.appendCap (l.length + xs.length) c T)).run P w = .ok cap w1 := by
        rw [run_choose, if_neg (by simp [Question.forced])]
      simp only [Sem.run_bind, hch, run_inf hi, Result.andThen_ok, run_askRoom, hl1, hx1, hzero]
      simp only [Go.newRow, Sem.run_bind, run_newObj, Result.andThen_ok, Sem.run_pure]
      rfl
    · have hcells : cells = (([] : List Value) ++ (l ++ xs).flatMap enc ++ (Builtin.zeroCells z.cells (cap - (l.length + xs.length))).toList).toArray := by
        apply Array.ext'; simp [cells, List.flatMap_append]
      have hnewrow := (h1.tail).newRow (T := T) (cs := ([] : List Value) ++ (l ++ xs).flatMap enc ++ (Builtin.zeroCells z.cells (cap - (l.length + xs.length))).toList)
      rw [← hcells] at hnewrow
      refine Sat.own_row hnewrow rfl (by simp; omega) ?_ (fun x _ => he x)
      simp only [Builtin.zeroCells, Array.toList_map, List.length_map, Array.length_toList, Array.size_range, List.length_append, vcells_size, hzl]

/-- 'append(s, x)', of a slice that is owned, x written out. -/
theorem Sat.append1 {α : Type} {T st xt ty : TypeId} {sz n cx : Nat} {enc : α → List Value} {a : Option Addr} {b c : Nat} {l : List α} {cs : List Value} {K : Value → World → Prop} {inf : TypeInfo} {z : Value} {T2 : TypeId} (x : α)
    (h : Sat β w (row b T cs :: Own T sz enc a c l :: As)) (hxc : enc x = cs) (hn : l.length = n) (hu : P.underlying st = some (.slice T)) (hux : P.underlying xt = some (.slice T2)) (hi : P.info? T = some inf) (hbn : inf.bytes ≠ 0) (hsz : inf.size = sz) (hz : inf.zero = some z) (hzl : (vcells z).length = sz)
    (he : ∀ x, (enc x).length = sz) (hone : ∀ x, (enc x).all Value.oneCell' = true) (hbd : (2 * (n + 1) + 192) * inf.bytes ≤ 2 ^ 48)
    (k : ∀ a' c' w', Sat β w' (Own T sz enc a' c' (l ++ [x]) :: As) → K (.slice a' (n + 1) c') w') :
    Runs P (Builtin.append_ #[st, xt] ty #[.slice a n c, .slice (some ⟨b, 0, none⟩) 1 cx]) w K := by
  subst hn
  have h2 := (h.own_of (sz := sz) [x] (enc := enc) (by simpa using hxc) (fun y _ => he y)).f1
  refine Sat.append (xs := [x]) (cx := cx) h2 hu hux hi hbn hsz hz hzl (h2.rds 1 rfl) he hone (by simpa using hbd) fun a' c' w' h' => ?_
  exact k a' c' w' h'.f1.tail

theorem Rds.sub {α : Type} {sz : Nat} {enc : α → List Value} {a : Option Addr} {l : List α} (hr : Rds β As sz enc a l) (k c : Nat) (hc : l.length ≤ c) :
    Rds β As sz enc (if c = k then a else a.map (·.add (k * sz))) (l.drop k) := by
  intro i x h
  rw [List.getElem?_drop] at h
  have hlt : k + i < l.length := (List.getElem?_eq_some_iff.1 h).1
  rw [if_neg (by omega)]
  obtain ⟨⟨b, o, rfl⟩, hcell⟩ := hr (k + i) x h
  refine ⟨⟨b, o + k * sz, by simp [Addr.add_none]⟩, fun j hj w hw => ?_⟩
  have := hcell j hj w hw
  simp only [Option.map_some, Addr.add_none, blk, off] at this ⊢
  rw [← this]
  congr 2
  rw [Nat.add_mul]; omega
/-- 's[k:]', of a slice that is read. -/
theorem Rds.sliceFrom {α : Type} {sz c k : Nat} {t e : TypeId} {ki : IntKind} {enc : α → List Value} {a : Option Addr} {l : List α} {n : Int} {inf : TypeInfo} {K : Value → World → Prop} (hr : Rds β As sz enc a l) (hu : P.underlying t = some (.slice e)) (hi : P.info? e = some inf)
    (hsz : inf.size = sz) (hc : l.length ≤ c) (hn : n = k) (hk : k ≤ l.length) (kk : ∀ a', Rds β As sz enc a' (l.drop k) → K (.slice a' (l.drop k).length (c - k)) w) :
    Runs P (Instr.sliceAt t (.slice a l.length c) (some (.int ki n)) none none) w K := by
  subst hn
  refine .mk _ w ?_ (kk _ (hr.sub k c hc))
  have hb : (0 : Int) ≤ k ∧ (k : Int) ≤ l.length := ⟨by omega, by omega⟩
  simp only [Instr.sliceAt, Sem.run_bind, run_und hu, Result.andThen_ok, Instr.slice, Instr.sliceBounds, Instr.sliceBound, asIntOf, Sem.run_pure, hb, and_self, if_true, run_siz hi, hsz, Int.toNat_natCast, List.length_drop]
/-- 's[:h]', of a slice that is read. -/
theorem Rds.sliceTo {α : Type} {sz c k : Nat} {t e : TypeId} {ki : IntKind} {enc : α → List Value} {a : Option Addr} {l : List α} {n : Int} {inf : TypeInfo} {K : Value → World → Prop} (hr : Rds β As sz enc a l) (hu : P.underlying t = some (.slice e)) (hi : P.info? e = some inf)
    (hc : l.length ≤ c) (hn : n = k) (hk : k ≤ l.length) (kk : Rds β As sz enc a (l.take k) → K (.slice a k c) w) :
    Runs P (Instr.sliceAt t (.slice a l.length c) none (some (.int ki n)) none) w K := by
  subst hn
  refine .mk _ w ?_ (kk (hr.take k))
  have hb : (0 : Int) ≤ k ∧ (k : Int) ≤ c := ⟨by omega, by omega⟩
  simp only [Instr.sliceAt, Sem.run_bind, run_und hu, Result.andThen_ok, Instr.slice, Instr.sliceBounds, Instr.sliceBound, asIntOf, Sem.run_pure, hb, and_self, if_true, run_siz hi, Int.toNat_natCast, Nat.sub_zero, Nat.zero_mul]
  congr 2
  split
  · rfl
  · cases a <;> simp [Addr.add]
end
end Go.Ev
