/- More of memory: make, stores into a list, equality of structs, methods through interface values. Conditions: none. -/
import Derived.Test.YtfhfpklefgjeoaaEvU
import Derived.Laws.MakeOwn
import Derived.Laws.StructEq
namespace Go.Ev
open Go Go.RowKit

section
variable {P : Program} {β w : World} {As Bs : List Asrt} {A B C : Asrt}

theorem repeatL_map (z : List Value) {α : Type} {enc : α → List Value} {x : α} (h : enc x = z) : ∀ n, repeatL z n = (List.replicate n x).flatMap enc
  | 0 => rfl
  | n + 1 => by rw [List.replicate_succ, List.flatMap_cons, h, repeatL, repeatL_map z h n]

/-- Nothing of what is owned is needed any more. -/
theorem Sat.drop (h : Sat β w As) : Sat β w [] := by
  obtain ⟨hb, _⟩ := h.out
  exact .mk' hb [] trivial ⟨by simp, by simp⟩
/-- 'make([]T, n)'. -/
theorem Sat.make {α : Type} {T st : TypeId} {sz n : Nat} {k1 k2 : IntKind} {m m' : Int} {enc : α → List Value} {inf : TypeInfo} {z : Value} {K : Value → World → Prop} (x0 : α) (h : Sat β w As)
    (hu : P.underlying st = some (.slice T)) (hi : P.info? T = some inf) (hz : inf.zero = some z) (hsz : inf.size = sz) (hx : enc x0 = vcells z) (hxl : (vcells z).length = sz) (hn : m = n) (hn' : m' = n)
    (hb : inf.bytes * n ≤ 281474976710656) (h63 : n ≤ 9223372036854775807) (k : ∀ a w', Sat β w' (Own T sz enc a n (List.replicate n x0) :: As) → K (.slice a n n) w') :
    Runs P (Instr.makeSlice st (.int k1 m) (.int k2 m')) w K := by
  subst hn hn'
  have hb' : (inf.bytes : Int) * (n : Int) ≤ 281474976710656 := by
    have : ((inf.bytes * n : Nat) : Int) ≤ 281474976710656 := by omega
    rwa [Int.natCast_mul] at this
  have hr := run_make (P := P) w st T inf z hu hi hz k1 k2 n n (by omega) (Int.le_refl _) hb' (by omega)
  refine .mk _ _ hr ?_
  simp only [Int.toNat_natCast, hsz]
  refine k _ _ ?_
  have hc : madeCells z.cells (n * sz) = ((List.replicate n x0).flatMap enc).toArray := by
    have : sz = z.cells.size := by rw [vcells_size, hxl]
    subst this
    rw [← repeatL_map (vcells z) hx n, ← vcells_eq]
    exact repeat_eq z.cells n
  rw [hc]
  have h2 := (h.newRow (T := T) (cs := (List.replicate n x0).flatMap enc)).own_of (sz := sz) (enc := enc) (List.replicate n x0) rfl (fun x hxm => by
    rw [List.eq_of_mem_replicate hxm, hx, hxl])
  simpa using h2

theorem flatMap_set {α : Type} {sz : Nat} {enc : α → List Value} : ∀ (l : List α) (i : Nat) (x : α), (∀ x ∈ l, (enc x).length = sz) → (enc x).length = sz → i < l.length →
    repl (l.flatMap enc) (i * sz) (enc x) = (l.set i x).flatMap enc
  | [], i, x, _, _, h => by simp at h
  | y :: l, 0, x, hs, hx, _ => by
    have hy := hs y (by simp)
    simp only [repl, List.flatMap_cons, Nat.zero_mul, List.take_zero, List.nil_append, Nat.zero_add, List.set_cons_zero]
    rw [List.drop_append, List.drop_of_length_le (by omega)]
    simp [hx, hy]
  | y :: l, i + 1, x, hs, hx, hi => by
    have hy := hs y (by simp)
    have ih := flatMap_set l i x (fun z hz => hs z (by simp [hz])) hx (by simpa using hi)
    simp only [List.flatMap_cons, List.set_cons_succ, ← ih, repl]
    have e : (i + 1) * sz = (enc y).length + i * sz := by rw [hy, Nat.succ_mul]; omega
    rw [e, List.take_length_add_append, Nat.add_assoc, List.drop_length_add_append]
    simp

theorem repl_mid (pre l post : List Value) (o : Nat) (vs : List Value) (h : o + vs.length ≤ l.length) : repl (pre ++ l ++ post) (pre.length + o) vs = pre ++ repl l o vs ++ post := by
  simp only [repl, List.append_assoc, List.take_length_add_append, Nat.add_assoc, List.drop_length_add_append]
  rw [List.take_append_of_le_length (by omega), List.drop_append_of_le_length (by omega)]

/-- A store into a list that is owned. -/
theorem Sat.storeOwn {α : Type} {T t : TypeId} {sz c j q : Nat} {enc : α → List Value} {a : Option Addr} {l : List α} {v : Value} {K : Unit → World → Prop} {inf : TypeInfo} (i : Nat) (x : α) (h : Sat β w As) (hA : As[i]? = some (Own T sz enc a c l))
    (hi : P.info? t = some inf) (hn : Nat.beq (vcells v).length inf.size = true) (hv : (vcells v).all Value.oneCell' = true) (hs : sz = inf.size) (hx : enc x = vcells v) (hj : j < l.length) (hq : q = off a + j * sz)
    (k : setLW As i (Own T sz enc a c (l.set j x)) fun As' => ∀ w', Sat β w' As' → K () w') : Runs P (Instr.storeAt t (.pointer (some ⟨blk a, q, none⟩)) v) w K := by
  have k' := setLW_eq _ _ _ k
  have hn' := Nat.eq_of_beq_eq_true hn
  rcases (h.front i hA).own_cases with ⟨rfl, _⟩ | ⟨b, o, pre, post, rfl, hs', ho, hc, hp, hel⟩
  · simp at hj
  · subst hq
    have hxl : (enc x).length = sz := by rw [hx, hn', hs]
    have hfl := flatMap_length l hel
    have hle : j * sz + (enc x).length ≤ (l.flatMap enc).length := by
      rw [hfl, hxl, ← Nat.succ_mul]; exact Nat.mul_le_mul_right _ hj
    refine Sat.storeN (cs := pre ++ l.flatMap enc ++ post) 0 hs' rfl hi hn' hv ?_ ?_
    · rw [← hx]; simp only [List.length_append, off]; omega
    · intro w' hw
      refine k' w' (Sat.turn i hA ?_)
      simp only [List.set_cons_zero] at hw
      rw [← hx, off, ← ho, repl_mid _ _ _ _ _ hle, flatMap_set l j x hel hxl hj] at hw
      refine Sat.own_row hw ho (by simpa using hc) (by simpa using hp) ?_
      intro y hy
      rcases List.mem_or_eq_of_mem_set hy with h1 | h1
      · exact hel y h1
      · rw [h1]; exact hxl

/-- A method through an interface value, by a function of its own. -/
theorem CallM.fn {T : TypeId} {v u : Value} {name : String} {args : List Value} {w : World} {f : FuncId} {K : Value → World → Prop}
    (hc : (callMethod (.iface T v) name args.toArray).run P w = .ok (.enter f (u :: args).toArray) w) (hf : (callFunc f (u :: args).toArray).run P w = .ok (.enter f (u :: args).toArray) w) (h : CallF P f (u :: args) w K) : CallM P (.iface T v) name args w K := by
  refine .mk (.mk ?_)
  have := h.out.out
  rw [hf] at this
  rw [hc]; exact this
/-- Equality of two values, by what shows. -/
def partV (P : Program) (t : TypeId) (cs : Array Value) (o : Nat) : Option Value :=
  match P.underlying t with
  | some (.struct _) => match P.info? t with
    | some i => match Nat.ble (o + i.size) cs.size with
      | true => some (.agg (cs.extract o (o + i.size)))
      | false => none
    | none => none
  | some (.array _ _) => none
  | some _ => cs.toList[o]?
  | none => none
def eqF (P : Program) (ev : TypeId → Value → Value → Option Bool) (xs ys : Array Value) : List Field → Option Bool
  | [] => some true
  | f :: r => match f.name == "_" with
    | true => none
    | false => match partV P f.type xs f.offset with
      | none => none
      | some a => match partV P f.type ys f.offset with
        | none => none
        | some b => match ev f.type a b with
          | none => none
          | some e => match eqF P ev xs ys r with
            | none => none
            | some e' => some (e && e')
def eqV (P : Program) : Nat → TypeId → Value → Value → Option Bool
  | 0, _, _, _ => none
  | d + 1, t, x, y => match P.underlying t with
    | some (.int _) => match x with
      | .int k a => match y with
        | .int k' b => match ieq k k' with
          | true => some (decide (a = b))
          | false => none
        | _ => none
      | _ => none
    | some .bool => match x with
      | .bool a => match y with
        | .bool b => some (a == b)
        | _ => none
      | _ => none
    | some .string => match x with
      | .string a => match y with
        | .string b => some (seq a b)
        | _ => none
      | _ => none
    | some (.struct fs) => match x with
      | .agg xs => match y with
        | .agg ys => match P.stoodInHeld t with
          | false => eqF P (eqV P d) xs ys fs.toList
          | true => none
        | _ => none
      | _ => none
    | _ => none
theorem partV_run {t : TypeId} {cs : Array Value} {o : Nat} {v : Value} (h : partV P t cs o = some v) (w : World) : (part t cs o).run P w = .ok v w := by
  unfold partV at h
  unfold part
  cases hu : P.underlying t with
  | none => rw [hu] at h; cases h
  | some d =>
    rw [hu] at h
    simp only [Sem.run_bind, run_agg hu, Result.andThen_ok]
    cases d <;> simp only [isAggD] at h ⊢
    case struct fs =>
      cases hi : P.info? t with
      | none => rw [hi] at h; cases h
      | some i =>
        rw [hi] at h
        simp only at h
        cases hb : Nat.ble (o + i.size) cs.size with
        | false => rw [hb] at h; cases h
        | true =>
          rw [hb] at h; simp only [Option.some.injEq] at h; subst h
          have := Nat.le_of_ble_eq_true hb
          simp [Sem.run_bind, run_siz hi]
          try omega
    case array => cases h
    all_goals
      have h' : cs[o]? = some v := by simpa using h
      simp [h']
theorem eqF_run {ev : TypeId → Value → Value → Option Bool} {d : Nat} (hev : ∀ t x y b, ev t x y = some b → ∀ w, (Op.equalIn d t x y).run P w = .ok b w) {xs ys : Array Value} :
    ∀ (fs : List Field) (b : Bool), eqF P ev xs ys fs = some b → ∀ w, (Op.eqFields d xs ys fs).run P w = .ok b w
  | [], b, h, w => by cases h; simp [Op.eqFields]
  | f :: r, b, h, w => by
    simp only [eqF] at h
    split at h
    · cases h
    rename_i hn
    have hn' : f.name ≠ "_" := by simpa using hn
    split at h
    · cases h
    rename_i a ha
    split at h
    · cases h
    rename_i a' ha'
    split at h
    · cases h
    rename_i e he
    split at h
    · cases h
    rename_i e' he'
    cases h
    simp only [Op.eqFields, if_pos hn', Sem.run_bind, partV_run ha, partV_run ha', hev _ _ _ _ he, Result.andThen_ok]
    have ih := eqF_run hev r e' he' w
    cases e
    · simp
    · simpa using ih
theorem eqV_run : ∀ (d : Nat) (t : TypeId) (x y : Value) (b : Bool), eqV P d t x y = some b → ∀ D w, (Op.equalIn (d + D) t x y).run P w = .ok b w
  | 0, _, _, _, _, h, _, _ => by cases h
  | d + 1, t, x, y, b, h, D, w => by
    rw [show d + 1 + D = (d + D) + 1 by omega]
    simp only [eqV] at h
    split at h <;> (try (cases h; done))
    · rename_i hu
      split at h <;> (try (cases h; done))
      split at h <;> (try (cases h; done))
      split at h <;> (try (cases h; done))
      rename_i hk
      have := ieq_spec hk
      subst this
      cases h
      rw [run_equalIn_int w _ _ _ _ _ _ hu]
      congr 1
    · rename_i hu
      split at h <;> (try (cases h; done))
      split at h <;> (try (cases h; done))
      cases h
      rw [run_equalIn_bool' w _ _ _ _ hu]
    · rename_i hu
      split at h <;> (try (cases h; done))
      split at h <;> (try (cases h; done))
      cases h
      rw [run_equalIn_string w _ _ _ _ hu]; rfl
    · rename_i fs hu
      split at h <;> (try (cases h; done))
      split at h <;> (try (cases h; done))
      split at h <;> (try (cases h; done))
      rename_i hs
      have hf : P.fieldsOf t = fs := by simp [Program.fieldsOf, hu]
      rw [run_equalIn_struct w _ t _ _ (by rw [hf]; exact hu) hs, hf]
      exact eqF_run (fun t x y b h w => eqV_run d t x y b h D w) _ _ h w
theorem EqP.of {t : TypeId} {x y : Value} {K : Bool → Prop} (b : Bool) (h : eqV P 10 t x y = some b) (h2 : eqSide P t x y) (k : K b) : EqP P t x y w K := .mk b (eqV_run 10 t x y b h 9990 w) h2 k
end
end Go.Ev
