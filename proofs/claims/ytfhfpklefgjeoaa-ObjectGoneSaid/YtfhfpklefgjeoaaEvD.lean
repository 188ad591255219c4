/- Each operation, whole: what 'opW' asks is enough for the model's own operation. Conditions: none. -/
import Derived.Test.YtfhfpklefgjeoaaEvC
namespace Go.Ev
open Go

section
variable {P : Program} {n : Nat} {ds : List Deferred} {env : Env} {a : Act} {w : World}

theorem eqGuard_free {op : BinOp} {t : TypeId} {x y : Operand} {u v : Value} (h : ∀ cs, u ≠ .agg cs) (h2 : u ≠ .nilIface ∨ v ≠ .nilIface) : (eqGuard op t x y u v).run P w = .ok () w := by
  cases op <;> first | rfl | (cases u <;> first | exact absurd rfl (h _) | rfl | (cases v <;> first | rfl | simp at h2))

theorem nilEq_deep {t : TypeId} {cx cy : Bool} {x y : Value} {b : Bool} (dp : Nat) (h : nilEq P t cx cy x y = some b) : (Op.equalIn (dp + 1) t x y).run P w = .ok b w := by
  cases x with
  | bool a =>
    cases y with
    | bool b => simp only [nilEq] at h; split at h <;> first | (cases h; done) | (rename_i hu; cases h; simp [Op.equalIn, run_und hu])
    | _ => cases h
  | pointer a =>
    cases y with
    | pointer b =>
      cases b with
      | none => simp only [nilEq] at h; split at h <;> first | (cases h; done) | (rename_i hu; cases h; cases a <;> simp [Op.equalIn, run_und hu])
      | some b =>
        cases a with
        | none => simp only [nilEq] at h; split at h <;> first | (cases h; done) | (rename_i hu; cases h; simp [Op.equalIn, run_und hu])
        | some a => cases h
    | _ => cases h
  | slice a n c =>
    cases y with
    | slice b m d =>
      cases b with
      | none => simp only [nilEq] at h; split at h <;> first | (cases h; done) | (rename_i hu; cases h; cases a <;> simp [Op.equalIn, run_und hu])
      | some b =>
        cases a with
        | none => simp only [nilEq] at h; split at h <;> first | (cases h; done) | (rename_i hu; cases h; simp [Op.equalIn, run_und hu])
        | some a => cases h
    | _ => cases h
  | map a =>
    cases y with
    | map b =>
      cases b with
      | none => simp only [nilEq] at h; split at h <;> first | (cases h; done) | (rename_i hu; cases h; cases a <;> simp [Op.equalIn, run_und hu])
      | some b => cases h
    | _ => cases h
  | nilIface =>
    cases y with
    | nilIface => simp only [nilEq] at h; split at h <;> first | (cases h; done) | (split at h <;> first | (cases h; done) | (rename_i hu; cases h; simp [Op.equalIn, run_und hu]))
    | iface u v => simp only [nilEq] at h; split at h <;> first | (cases h; done) | (rename_i hu; cases h; simp [Op.equalIn, run_und hu])
    | _ => cases h
  | iface u v =>
    cases y with
    | nilIface => simp only [nilEq] at h; split at h <;> first | (cases h; done) | (rename_i hu; cases h; simp [Op.equalIn, run_und hu])
    | _ => cases h
  | nilFunc =>
    cases y with
    | nilFunc => simp only [nilEq] at h; split at h <;> first | (cases h; done) | (rename_i hu; cases h; simp [Op.equalIn, run_und hu])
    | func f b c => simp only [nilEq] at h; split at h <;> first | (cases h; done) | (rename_i hu; cases h; simp [Op.equalIn, run_und hu])
    | _ => cases h
  | func f b c =>
    cases y with
    | nilFunc => simp only [nilEq] at h; split at h <;> first | (cases h; done) | (rename_i hu; cases h; simp [Op.equalIn, run_und hu])
    | _ => cases h
  | _ => cases h

theorem nilEq_spec {t : TypeId} {cx cy : Bool} {x y : Value} {b : Bool} (h : nilEq P t cx cy x y = some b) : (Op.equal t x y).run P w = .ok b w := nilEq_deep 9999 h

theorem nilEq_guard {op : BinOp} {t : TypeId} {ox oy : Operand} {x y : Value} {b : Bool} (h : nilEq P t (isC ox) (isC oy) x y = some b) : (eqGuard op t ox oy x y).run P w = .ok () w := by
  by_cases hx : x = .nilIface ∧ y = .nilIface
  · obtain ⟨rfl, rfl⟩ := hx
    simp only [nilEq] at h
    have hc : (isC ox || isC oy) = true := by
      cases hc : (isC ox || isC oy)
      · rw [hc] at h; cases h
      · rfl
    cases ox <;> cases oy <;> first | (simp [isC] at hc; done) | (cases op <;> rfl)
  · refine eqGuard_free ?_ ?_
    · rintro cs rfl; simp [nilEq] at h
    · by_cases h1 : x = .nilIface
      · exact .inr fun h2 => hx ⟨h1, h2⟩
      · exact .inl h1

theorem eqP_guard {op : BinOp} {t : TypeId} {ox oy : Operand} {x y : Value}
    (h : eqSide P t x y) : (eqGuard op t ox oy x y).run P w = .ok () w := by
  cases op <;> first | rfl | (cases x <;> first | rfl | (cases y <;> first | rfl | exact h.elim | (simp only [eqSide] at h; simp [eqGuard, h])))

theorem EqP.out {t : TypeId} {x y : Value} {K : Bool → Prop} (h : EqP P t x y w K) : ∃ b, (Op.equal t x y).run P w = .ok b w ∧
    eqSide P t x y ∧ K b := h.unf
theorem EqP.mk {t : TypeId} {x y : Value} {K : Bool → Prop} (b : Bool) (h : (Op.equal t x y).run P w = .ok b w)
    (h2 : eqSide P t x y) (k : K b) : EqP P t x y w K := ⟨b, h, h2, k⟩

theorem binOp_eql {t : TypeId} {x y : Value} {b : Bool} (h : (Op.equal t x y).run P w = .ok b w) (hx : ∀ k n, x ≠ .int k n) (hs : ∀ s, x ≠ .string s) (hf : ∀ k n, x ≠ .float k n) (hc : ∀ k r i, x ≠ .complex k r i) :
    (Go.binOp .eql t x y).run P w = .ok (.bool b) w ∧ (Go.binOp .neq t x y).run P w = .ok (.bool (!b)) w := by
  constructor <;> (cases x <;> first | exact absurd rfl (hx _ _) | exact absurd rfl (hs _) | exact absurd rfl (hf _ _) | exact absurd rfl (hc _ _ _) | (simp [Go.binOp, h]))

theorem binW_run {op : BinOp} {t : TypeId} {ox oy : Operand} {x y : Value} {K : Value → World → Prop} (h : binW P op t (isC ox) (isC oy) x y w K) :
    Runs P (do eqGuard op t ox oy x y; Go.binOp op t x y) w K := by
  have go : ∀ {v : Value} {w' : World}, (eqGuard op t ox oy x y).run P w = .ok () w → (Go.binOp op t x y).run P w = .ok v w' → K v w' → Runs P (do eqGuard op t ox oy x y; Go.binOp op t x y) w K := by
    intro v w' h1 h2 hk
    exact .mk v w' (by simp [Sem.run_bind, h1, h2]) hk
  have eqs : (∀ k n, x ≠ .int k n) → (∀ s, x ≠ .string s) → (∀ k n, x ≠ .float k n) → (∀ k r i, x ≠ .complex k r i) →
      eqW P op t (isC ox) (isC oy) x y w K → Runs P (do eqGuard op t ox oy x y; Go.binOp op t x y) w K := by
    intro h1 h2 h3 h4 hh
    unfold eqW at hh
    cases op <;> simp only at hh
    all_goals
      cases hn : nilEq P t (isC ox) (isC oy) x y with
      | some b =>
        rw [hn] at hh
        have he := binOp_eql (nilEq_spec (w := w) hn) h1 h2 h3 h4
        first | exact go (nilEq_guard hn) he.1 hh | exact go (nilEq_guard hn) he.2 hh
      | none =>
        rw [hn] at hh
        obtain ⟨b, hb, hg, hk⟩ := hh.out
        have he := binOp_eql hb h1 h2 h3 h4
        first | exact go (eqP_guard hg) he.1 hk | exact go (eqP_guard hg) he.2 hk
  unfold binW at h
  cases x with
  | int k i =>
    cases y with
    | int k' j =>
      simp only at h
      have hg : (eqGuard op t ox oy (.int k i) (.int k' j)).run P w = .ok () w := eqGuard_free (by simp) (by simp)
      cases hs : isShift op with
      | true =>
        rw [hs] at h
        cases op <;> simp only [isShift, Bool.false_eq_true] at hs
        all_goals
          simp only [shW] at h
          obtain ⟨h0, hk⟩ := h.out
          first
            | exact go hg (by simp [Go.binOp, Op.shift, Int.not_lt.2 h0]) hk.out
            | exact go hg (by simp [Go.binOp, Op.shift, Int.not_lt.2 h0]) hk
      | false =>
        rw [hs] at h
        cases hk : ieq k k' with
        | false => rw [hk] at h; exact h.elim
        | true =>
          rw [hk] at h
          have := ieq_spec hk
          subst this
          simp only at h
          obtain ⟨v, hv, hkk⟩ := intW_run (P := P) h
          refine go hg ?_ hkk
          rw [← hv w]
          cases op <;> simp only [isShift, Bool.true_eq_false] at hs <;> simp [Go.binOp]
    | _ => exact h.elim
  | string s =>
    cases y with
    | string r =>
      obtain ⟨v, hv, hk⟩ := strW_run (P := P) h
      refine go (eqGuard_free (by simp) (by simp)) ?_ hk
      rw [← hv w]
      cases op <;> rfl
    | _ => exact h.elim
  | complex k i j =>
    obtain ⟨v, w', hr, hk⟩ := h.out
    exact go (eqGuard_free (by simp) (by simp)) hr hk
  | float k i =>
    obtain ⟨v, w', hr, hk⟩ := h.out
    exact go (eqGuard_free (by simp) (by simp)) hr hk
  | _ => exact eqs (by simp) (by simp) (by simp) (by simp) h

theorem binP_run {op : BinOp} {t : TypeId} {ox oy : Operand} {x y : Value} {K : Value → Prop} (h : binP P op t (isC ox) (isC oy) x y K) :
    ∃ v, (∀ w, (do eqGuard op t ox oy x y; Go.binOp op t x y : Sem Value).run P w = .ok v w) ∧ K v := by
  have go : ∀ {v : Value}, (∀ w, (eqGuard op t ox oy x y).run P w = .ok () w) → (∀ w, (Go.binOp op t x y).run P w = .ok v w) → K v →
      ∃ v, (∀ w, (do eqGuard op t ox oy x y; Go.binOp op t x y : Sem Value).run P w = .ok v w) ∧ K v := by
    intro v h1 h2 hk
    exact ⟨v, fun w => by simp [Sem.run_bind, h1, h2], hk⟩
  have eqs : (∀ k n, x ≠ .int k n) → (∀ s, x ≠ .string s) → (∀ k n, x ≠ .float k n) → (∀ k r i, x ≠ .complex k r i) →
      eqPu P op t (isC ox) (isC oy) x y K → ∃ v, (∀ w, (do eqGuard op t ox oy x y; Go.binOp op t x y : Sem Value).run P w = .ok v w) ∧ K v := by
    intro h1 h2 h3 h4 hh
    unfold eqPu at hh
    cases op <;> simp only at hh
    all_goals
      cases hn : nilEq P t (isC ox) (isC oy) x y with
      | some b =>
        rw [hn] at hh
        first
          | exact go (fun _ => nilEq_guard hn) (fun w => (binOp_eql (nilEq_spec (w := w) hn) h1 h2 h3 h4).1) hh
          | exact go (fun _ => nilEq_guard hn) (fun w => (binOp_eql (nilEq_spec (w := w) hn) h1 h2 h3 h4).2) hh
      | none => rw [hn] at hh; exact hh.elim
  unfold binP at h
  cases x with
  | int k i =>
    cases y with
    | int k' j =>
      simp only at h
      have hg : ∀ w, (eqGuard op t ox oy (.int k i) (.int k' j)).run P w = .ok () w := fun _ => eqGuard_free (by simp) (by simp)
      cases hs : isShift op with
      | true =>
        rw [hs] at h
        cases op <;> simp only [isShift, Bool.false_eq_true] at hs
        all_goals
          simp only [shW] at h
          obtain ⟨h0, hk⟩ := h.out
          first
            | exact go hg (fun w => by simp [Go.binOp, Op.shift, Int.not_lt.2 h0]) hk.out
            | exact go hg (fun w => by simp [Go.binOp, Op.shift, Int.not_lt.2 h0]) hk
      | false =>
        rw [hs] at h
        cases hk : ieq k k' with
        | false => rw [hk] at h; exact h.elim
        | true =>
          rw [hk] at h
          have := ieq_spec hk
          subst this
          obtain ⟨v, hv, hkk⟩ := intW_run (P := P) h
          refine go hg (fun w => ?_) hkk
          rw [← hv w]
          cases op <;> simp only [isShift, Bool.true_eq_false] at hs <;> simp [Go.binOp]
    | _ => exact h.elim
  | string s =>
    cases y with
    | string r =>
      obtain ⟨v, hv, hk⟩ := strW_run (P := P) h
      refine go (fun _ => eqGuard_free (by simp) (by simp)) (fun w => ?_) hk
      rw [← hv w]
      cases op <;> rfl
    | _ => exact h.elim
  | complex k i j => exact h.elim
  | float k i => exact h.elim
  | _ => exact eqs (by simp) (by simp) (by simp) (by simp) h
end
end Go.Ev
