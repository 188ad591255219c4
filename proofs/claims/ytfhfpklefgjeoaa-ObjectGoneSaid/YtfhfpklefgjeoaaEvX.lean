/- Further words: scopes with jumps back, loops gone through once, picking of what is owned. Conditions: none. -/
import Derived.Test.YtfhfpklefgjeoaaEvV
import Derived.Test.YtfhfpklefgjeoaaEvR
import Derived.ScopeJumps
namespace Go.Ev
open Go Go.RowKit

theorem CW.is {P : Program} {n : Nat} {c : Code} {Q : Exit → Env → World → Prop} {env : Env} {w : World} (h : CW P n c Q env w) : CW P n c Q env w := h
theorem Ld.is {w : World} {a : Addr} {K : Value → Prop} (h : Ld w a K) : Ld w a K := h
theorem LdN.is {w : World} {a : Addr} {n : Nat} {K : List Value → Prop} (h : LdN w a n K) : LdN w a n K := h
theorem Runs.is {α : Type} {P : Program} {s : Sem α} {w : World} {K : α → World → Prop} (h : Runs P s w K) : Runs P s w K := h
theorem New.is {T : TypeId} {cs : List Value} {w : World} {K : Nat → World → Prop} (h : New T cs w K) : New T cs w K := h
theorem EqP.is {P : Program} {t : TypeId} {x y : Value} {w : World} {K : Bool → Prop} (h : EqP P t x y w K) : EqP P t x y w K := h
theorem LdG.is {C : World → Prop} {a : Addr} {K : Value → Prop} (h : LdG C a K) : LdG C a K := h
theorem LdGN.is {C : World → Prop} {a : Addr} {n : Nat} {K : List Value → Prop} (h : LdGN C a n K) : LdGN C a n K := h
theorem Chk.is {p K : Prop} (h : Chk p K) : Chk p K := h

section
variable {P : Program} {n : Nat} {env : Env} {w : World}

def Jump (l : Nat) (N : Env → World → Prop) (Q : Exit → Env → World → Prop) : Exit → Env → World → Prop
  | .normal, env, w => Q .normal env w
  | .exit i, env, w => Q (.exit i) env w
  | .goto l', env, w => match Nat.beq l' l with
    | true => N env w
    | false => False
  | .ret, env, w => Q .ret env w
  | .panic c, env, w => Q (.panic c) env w
  | .outgrown, env, w => Q .outgrown env w

/-- A scope with jumps back to one label: as a loop whose head is the label. -/
theorem CW.scope {c rest : Code} {Q : Exit → Env → World → Prop} (l : Nat) (ts : List Nat) (I : Nat → List Value → World → Prop) (hf : findLabel c l = some rest)
    (first : CW P n c (Jump l (fun env w => pick ts env fun vs => ∃ m, I m vs w) Q) env w)
    (pass : ∀ m vs w, I m vs w → CW P n rest (Jump l (fun env' w' => pick ts env' fun vs' => ∃ m', m' < m ∧ I m' vs' w') Q) (zipE ts vs) w) :
    CW P n (.scope c) Q env w := by
  refine .mk fun ds a hst => ?_
  intro b k cs
  have hg : gotoIn l (.inScope c :: k) = some (.code rest :: .inScope c :: k) := by simp [gotoIn, hf]
  have key : ∀ m, ∀ a w vs, I m vs w → St n ds (zipE ts vs) a → ∃ e a' w', (∃ env', St n ds env' a' ∧ Q e env' w') ∧
      Arrives P (lone (b.at a (.code rest :: .inScope c :: k)) cs w) b k cs e a' w' := by
    intro m
    induction m using Nat.strongRecOn with
    | _ m ih =>
      intro a w vs hI hst
      obtain ⟨e, a₁, w₁, ⟨env1, hst1, hq⟩, harr⟩ := (pass m vs w hI).out ds a hst b (.inScope c :: k) cs
      cases e with
      | normal => exact ⟨.normal, a₁, w₁, ⟨env1, hst1, hq⟩, Steps.trans harr (.one step_inScope)⟩
      | exit id => exact ⟨.exit id, a₁, w₁, ⟨env1, hst1, hq⟩, fun k' hk => harr k' (by simp [exitTo, hk])⟩
      | goto l' =>
        simp only [Jump] at hq
        cases hb : Nat.beq l' l with
        | false => rw [hb] at hq; exact hq.elim
        | true =>
          rw [hb] at hq
          obtain rfl : l' = l := Nat.eq_of_beq_eq_true hb
          obtain ⟨vs', ⟨m', hlt, hI'⟩, hs'⟩ := lk_zipE ts env1 hq
          obtain ⟨e₂, a₂, w₂, hq₂, harr₂⟩ := ih m' hlt a₁ w₁ vs' hI' (hst1.less hs')
          exact ⟨e₂, a₂, w₂, hq₂, .of_steps (harr _ hg) harr₂⟩
      | ret => exact ⟨_, a₁, w₁, ⟨env1, hst1, hq⟩, harr⟩
      | panic ch => exact ⟨_, a₁, w₁, ⟨env1, hst1, hq⟩, harr⟩
      | outgrown => exact ⟨_, a₁, w₁, ⟨env1, hst1, hq⟩, harr⟩
  obtain ⟨e, a₁, w₁, ⟨env1, hst1, hq⟩, harr⟩ := first.out ds a hst b (.inScope c :: k) cs
  cases e with
  | normal => exact ⟨.normal, a₁, w₁, ⟨env1, hst1, hq⟩, .head step_scope (Steps.trans harr (.one step_inScope))⟩
  | exit id => exact ⟨.exit id, a₁, w₁, ⟨env1, hst1, hq⟩, fun k' hk => .head step_scope (harr k' (by simp [exitTo, hk]))⟩
  | goto l' =>
    simp only [Jump] at hq
    cases hb : Nat.beq l' l with
    | false => rw [hb] at hq; exact hq.elim
    | true =>
      rw [hb] at hq
      obtain rfl : l' = l := Nat.eq_of_beq_eq_true hb
      obtain ⟨vs', ⟨m', hI'⟩, hs'⟩ := lk_zipE ts env1 hq
      obtain ⟨e₂, a₂, w₂, hq₂, harr₂⟩ := key m' a₁ w₁ vs' hI' (hst1.less hs')
      exact ⟨e₂, a₂, w₂, hq₂, .of_steps (.head step_scope (harr _ hg)) harr₂⟩
  | ret => exact ⟨_, a₁, w₁, ⟨env1, hst1, hq⟩, .of_steps (.one step_scope) harr⟩
  | panic ch => exact ⟨_, a₁, w₁, ⟨env1, hst1, hq⟩, .of_steps (.one step_scope) harr⟩
  | outgrown => exact ⟨_, a₁, w₁, ⟨env1, hst1, hq⟩, .of_steps (.one step_scope) harr⟩

theorem Jump.mono {l : Nat} {N N' : Env → World → Prop} {Q : Exit → Env → World → Prop} (hn : ∀ env w, N env w → N' env w) : ∀ e env w, Jump l N Q e env w → Jump l N' Q e env w
  | .normal, _, _, h => h
  | .exit _, _, _, h => h
  | .goto l', env, w, h => by
    simp only [Jump] at *
    cases hb : Nat.beq l' l with
    | true => rw [hb] at h; exact hn _ _ h
    | false => rw [hb] at h; exact h.elim
  | .ret, _, _, h => h
  | .panic _, _, _, h => h
  | .outgrown, _, _, h => h
theorem pick_mono : ∀ (ts : List Nat) (env : Env) {k k' : List Value → Prop}, (∀ vs, k vs → k' vs) → pick ts env k → pick ts env k'
  | [], _, _, _, hk, h => hk _ h
  | t :: r, env, k, k', hk, h => by
    simp only [pick] at *
    cases hl : lk env t with
    | none => rw [hl] at h; exact h.elim
    | some v => rw [hl] at h; exact pick_mono r env (fun vs => hk _) h
/-- At the label, the first time. -/
theorem CW.label {B : Code} {Q : Exit → Env → World → Prop} (l : Nat) (ts : List Nat) (I : Nat → List Value → World → Prop)
    (h0 : pick ts env fun vs => ∃ m, I m vs w)
    (pass : ∀ m vs w, I m vs w → CW P n B (Jump l (fun env' w' => pick ts env' fun vs' => ∃ m', m' < m ∧ I m' vs' w') Q) (zipE ts vs) w) :
    CW P n (.seq (.label l) B) (Jump l (fun env w => pick ts env fun vs => ∃ m, I m vs w) Q) env w := by
  obtain ⟨vs, ⟨m, hI⟩, hs⟩ := lk_zipE ts env h0
  refine CW.run rfl ?_
  show CW P n B _ env w
  refine CW.less ?_ hs
  refine CW.mono (pass m vs w hI) (Jump.mono fun env w h => pick_mono _ _ (fun vs ⟨m', _, h⟩ => ⟨m', h⟩) h)

/-- Ways that meet behind a piece, its continuation at hand. -/
theorem CW.joinT {x y : Code} {Q : Exit → Env → World → Prop} (ts : List Nat) (M : List Value → World → Prop) (h : CW P n x (Then (fun env w => pick ts env fun vs => M vs w) Q) env w)
    (h2 : ∀ vs w, M vs w → CW P n y Q (zipE ts vs) w) : CW P n x (Then (fun env w => CW P n y Q env w) Q) env w := by
  refine CW.mono h fun e env w hq => ?_
  cases e with
  | normal =>
    obtain ⟨vs, hm, hs⟩ := lk_zipE ts env hq
    exact (h2 vs w hm).less hs
  | _ => exact hq
/-- A scope with jumps back to one label, at its own: like a loop. -/
theorem CW.scope1 {x rest : Code} {Q : Exit → Env → World → Prop} (l : Nat) (ts : List Nat) (I : Nat → List Value → World → Prop) (hf : findLabel x l = none)
    (first : W P n x (Then (fun env w => pick ts env fun vs => ∃ m, I m vs w) (Jump l (fun _ _ => False) Q)) env w)
    (pass : ∀ m vs w, I m vs w → CW P n rest (Jump l (fun env' w' => pick ts env' fun vs' => ∃ m', m' < m ∧ I m' vs' w') Q) (zipE ts vs) w) :
    CW P n (.scope (.seq x (.seq (.label l) rest))) Q env w := by
  refine CW.scope (rest := .seq .skip rest) l ts I (by simp [findLabel, hf]) ?_ (fun m vs w h => CW.run rfl (pass m vs w h))
  refine .mk fun ds a hst => ?_
  refine wp_seq (Go.wp_mono ((W_sound x first).out ds a hst) ?_)
  rintro e a' w' ⟨env', hst', hq⟩
  cases e with
  | normal => exact (CW.label l ts I hq pass).out ds a' hst'
  | _ => exact ⟨env', hst', Jump.mono (N := fun _ _ => False) (fun _ _ h => False.elim h) _ _ _ hq⟩
end

section
variable {β w : World} {As : List Asrt}
def outO : List Nat → List (Option Asrt) → List Asrt
  | [], _ => []
  | i :: is, l => match l[i]? with
    | some (some a) => a :: outO is (l.set i none)
    | _ => outO is l
def remO : List Nat → List (Option Asrt) → List Asrt
  | [], l => l.filterMap id
  | i :: is, l => match l[i]? with
    | some (some _) => remO is (l.set i none)
    | _ => remO is l
theorem filterMap_set_none : ∀ (l : List (Option Asrt)) (i : Nat) (a : Asrt), l[i]? = some (some a) → (a :: (l.set i none).filterMap id).Perm (l.filterMap id)
  | [], i, a, h => by simp at h
  | x :: l, 0, a, h => by
    obtain rfl : x = some a := by simpa using h
    simp
  | x :: l, i + 1, a, h => by
    have h' : l[i]? = some (some a) := by simpa using h
    have ih := filterMap_set_none l i a h'
    cases x with
    | none => simpa using ih
    | some x => simpa using (List.Perm.swap x a _).trans (ih.cons x)
theorem outO_perm : ∀ (is : List Nat) (l : List (Option Asrt)), (outO is l ++ remO is l).Perm (l.filterMap id)
  | [], l => .refl _
  | i :: is, l => by
    simp only [outO, remO]
    split
    · rename_i a h
      exact ((outO_perm is _).cons a).trans (filterMap_set_none l i a h)
    · exact outO_perm is l
def forceA : List Asrt → (List Asrt → Prop) → Prop
  | [], k => k []
  | a :: r, k => forceA r fun r => k (a :: r)
theorem forceA_mk : ∀ (l : List Asrt) {k : List Asrt → Prop}, (forceA l k ↔ k l)
  | [], _ => .rfl
  | _ :: r, _ => forceA_mk r
theorem Sat.bring (is : List Nat) (h : Sat β w As) : Sat β w (outO is (As.map some) ++ remO is (As.map some)) := by
  refine h.perm ?_
  have := outO_perm is (As.map some)
  simp only [List.filterMap_map] at this
  have e : List.filterMap (id ∘ some) As = As := by simp
  rw [e] at this
  exact this.symm
theorem Sat.front0 {Bs : List Asrt} (h : Sat β w (As ++ Bs)) : Sat β w As := by
  induction As with
  | nil => exact h.drop
  | cons A As ih => 
    obtain ⟨hb, hh, ⟨h1, h2, rfl, ha, hs⟩, hf⟩ := h.out
    clear ih h
    have key : ∀ (As : List Asrt) (h2 : Hp), SatL (As ++ Bs) h2 → ∃ h3 h4, h2 = h3 ++ h4 ∧ SatL As h3 := by
      intro As
      induction As with
      | nil => exact fun h2 _ => ⟨[], h2, rfl, trivial⟩
      | cons X As ih =>
        rintro _ ⟨g1, g2, rfl, hx, hs⟩
        obtain ⟨h3, h4, rfl, h5⟩ := ih g2 hs
        exact ⟨g1 ++ h3, h4, by simp, g1, h3, rfl, hx, h5⟩
    obtain ⟨h3, h4, rfl, h5⟩ := key As h2 hs
    refine .mk' hb (h1 ++ h3) ⟨h1, h3, rfl, ha, h5⟩ ?_
    rw [← List.append_assoc] at hf
    exact hf.left
theorem Sat.keep (is : List Nat) (h : Sat β w As) : Sat β w (outO is (As.map some)) := (h.bring is).front0
/-- Some of what is owned to the front; the list is written out anew. -/
theorem Sat.bringK {G : Prop} (is : List Nat) (h : Sat β w As) (k : forceA (outO is (As.map some) ++ remO is (As.map some)) fun As' => Sat β w As' → G) : G := (forceA_mk _).1 k (h.bring is)
theorem Sat.keepK {G : Prop} (is : List Nat) (h : Sat β w As) (k : forceA (outO is (As.map some)) fun As' => Sat β w As' → G) : G := (forceA_mk _).1 k (h.keep is)
theorem SatL.more : ∀ {As : List Asrt} {h g : Hp}, SatL As h → SatL As (h ++ g)
  | [], _, _, _ => trivial
  | A :: As, _, g, ⟨h1, h2, e, ha, hs⟩ => ⟨h1, h2 ++ g, by rw [e, List.append_assoc], ha, SatL.more hs⟩
/-- Any list of what is owned, as one thing. -/
def Bag (As : List Asrt) : Asrt := fun h => SatL As h
theorem Sat.bag {A : Asrt} : Sat β w (A :: As) ↔ Sat β w [A, Bag As] := by
  constructor
  · intro h
    obtain ⟨hb, hh, ⟨h1, h2, rfl, ha, hs⟩, hf⟩ := h.out
    exact .mk' hb _ ⟨h1, h2, rfl, ha, h2, [], by simp, hs, trivial⟩ hf
  · intro h
    obtain ⟨hb, hh, ⟨h1, h2, rfl, ha, h3, h4, rfl, hs, _⟩, hf⟩ := h.out
    exact .mk' hb _ ⟨h1, h3 ++ h4, rfl, ha, SatL.more hs⟩ hf
theorem Sat.bag2 {A B : Asrt} : Sat β w (A :: B :: As) ↔ Sat β w [A, B, Bag As] := by
  constructor
  · intro h
    obtain ⟨hb, hh, ⟨h1, h2, rfl, ha, h3, h4, rfl, hb2, hs⟩, hf⟩ := h.out
    exact .mk' hb _ ⟨h1, _, rfl, ha, h3, h4, rfl, hb2, h4, [], by simp, hs, trivial⟩ hf
  · intro h
    obtain ⟨hb, hh, ⟨h1, h2, rfl, ha, h3, h4, rfl, hb2, h5, h6, rfl, hs, _⟩, hf⟩ := h.out
    exact .mk' hb _ ⟨h1, _, rfl, ha, h3, _, rfl, hb2, SatL.more hs⟩ hf
theorem Sat.bag0 : Sat β w As ↔ Sat β w [Bag As] := by
  constructor
  · intro h
    obtain ⟨hb, hh, hs, hf⟩ := h.out
    exact .mk' hb _ ⟨hh, [], by simp, hs, trivial⟩ hf
  · intro h
    obtain ⟨hb, hh, ⟨h3, h4, rfl, hs, _⟩, hf⟩ := h.out
    exact .mk' hb _ (SatL.more hs) hf
theorem Sat.ldG {b o : Nat} {T : TypeId} {cs : List Value} {v : Value} {K : Value → Prop} (i : Nat) (hA : As[i]? = some (row b T cs)) (hc : cs[o]? = some v) (k : K v) : LdG (fun u => Sat β u As) ⟨b, o, none⟩ K :=
  .mk v (fun _ hu => Sat.cell i hu hA hc) k
theorem Sat.ldGN {b o n : Nat} {T : TypeId} {cs : List Value} {K : List Value → Prop} (i : Nat) (hA : As[i]? = some (row b T cs)) (vs : List Value)
    (hc : (cs.drop o).take n = vs) (hl : vs.length = n) (k : K vs) : LdGN (fun u => Sat β u As) ⟨b, o, none⟩ n K := by
  refine .mk vs hl (fun u hu j hj => ?_) k
  rw [Addr.add_none, cell_of_block (Sat.front i hu hA).row_block.1, ← hc]
  simp [hj]
theorem Sat.cut {A : Asrt} : ∀ (n : Nat) {As : List Asrt}, Sat β w (A :: As) → Sat β w (A :: As.drop n)
  | 0, _, h => h
  | _ + 1, [], h => h
  | n + 1, _ :: As, h => Sat.cut n (As := As) h.f1.tail
theorem Rds.ldGN {α : Type} {sz i q : Nat} {enc : α → List Value} {a : Option Addr} {l : List α} {x : α} {K : List Value → Prop} (hr : Rds β As sz enc a l) (h : l[i]? = some x) (hl : (enc x).length = sz) (hq : q = off a + i * sz) (k : K (enc x)) : LdGN (fun u => Sat β u As) ⟨blk a, q, none⟩ sz K := by
  subst hq
  exact .mk (enc x) hl (fun u hu j hj => by rw [Addr.add_none]; exact (hr i x h).2 j hj u hu) k
theorem Rds.ldG {α : Type} {sz i j q : Nat} {enc : α → List Value} {a : Option Addr} {l : List α} {x : α} {v : Value} {K : Value → Prop} (hr : Rds β As sz enc a l) (h : l[i]? = some x) (hj : j < sz) (hv : (enc x)[j]? = some v) (hq : q = off a + i * sz + j) (k : K v) : LdG (fun u => Sat β u As) ⟨blk a, q, none⟩ K := by
  subst hq
  exact .mk v (fun u hu => by rw [(hr i x h).2 j hj u hu, hv]) k
end
end Go.Ev
