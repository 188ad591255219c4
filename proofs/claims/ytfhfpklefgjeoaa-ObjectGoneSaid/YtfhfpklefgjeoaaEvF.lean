/- Regions and code: 'W' is sound for the model's code. Conditions: none. -/
import Derived.Test.YtfhfpklefgjeoaaEvE
import Derived.Scope
namespace Go.Ev
open Go

def dstW (n : Nat) (dst : Option Tmp) (v : Value) (env : Env) (K : Env → Prop) : Prop :=
  match dst with
  | none => K env
  | some d => match Nat.ble n d with
    | true => False
    | false => K ((d, v) :: env)

def grdW (all : List Oper) (g : Option (Nat × Bool)) (env : Env) (A B : Env → Prop) : Prop :=
  match g with
  | none => A env
  | some (j, want) => match all[j]? with
    | some oj => match oj.dst with
      | some d => match lk env d with
        | some (.bool b) => match want with
          | true => sel b (A ((d, .bool true) :: env)) (B ((d, .bool false) :: env))
          | false => sel b (B ((d, .bool true) :: env)) (A ((d, .bool false) :: env))
        | some (.tuple _) => B env
        | _ => False
      | none => False
    | none => False

def opsW (P : Program) (n : Nat) (all : List Oper) : List Oper → Env → World → (Env → World → Prop) → Prop
  | [], env, w, K => K env w
  | o :: rest, env, w, K =>
    grdW all o.guard env
      (fun env => opW P o env w fun v w' => dstW n o.dst v env fun env' => opsW P n all rest env' w' K)
      (fun env => dstW n o.dst undef env fun env' => opsW P n all rest env' w K)

/-- A piece of code, from a frame whose temporaries the environment knows. -/
structure CW (P : Program) (n : Nat) (c : Code) (Q : Exit → Env → World → Prop) (env : Env) (w : World) : Prop where
  intro ::
  unf : ∀ ds a, St n ds env a → c.wp P (fun e a' w' => ∃ env', St n ds env' a' ∧ Q e env' w') a w
theorem CW.mk {P : Program} {n : Nat} {c : Code} {Q : Exit → Env → World → Prop} {env : Env} {w : World}
    (h : ∀ ds a, St n ds env a → c.wp P (fun e a' w' => ∃ env', St n ds env' a' ∧ Q e env' w') a w) : CW P n c Q env w := ⟨h⟩
theorem CW.out {P : Program} {n : Nat} {c : Code} {Q : Exit → Env → World → Prop} {env : Env} {w : World} (h : CW P n c Q env w) :
    ∀ ds a, St n ds env a → c.wp P (fun e a' w' => ∃ env', St n ds env' a' ∧ Q e env' w') a w := by exact h.unf

def Then (N : Env → World → Prop) (Q : Exit → Env → World → Prop) : Exit → Env → World → Prop
  | .normal, env, w => N env w
  | .exit i, env, w => Q (.exit i) env w
  | .goto l, env, w => Q (.goto l) env w
  | .ret, env, w => Q .ret env w
  | .panic c, env, w => Q (.panic c) env w
  | .outgrown, env, w => Q .outgrown env w
def InB (id : Nat) (Q : Exit → Env → World → Prop) : Exit → Env → World → Prop
  | .normal, env, w => Q .normal env w
  | .exit i, env, w => match Nat.beq i id with
    | true => Q .normal env w
    | false => Q (.exit i) env w
  | .goto l, env, w => Q (.goto l) env w
  | .ret, env, w => Q .ret env w
  | .panic c, env, w => Q (.panic c) env w
  | .outgrown, env, w => Q .outgrown env w

/-- A statement behind which ways may meet again: an 'if', a block. -/
def isStop : Code → Bool
  | .seq (.region _ _ _) (.cond _ _ _) => true
  | .block _ _ => true
  | _ => false
/-- What 'W' goes through by itself. -/
def isRun : Code → Bool
  | .skip | .cond _ _ _ | .exit _ | .goto _ | .label _ | .ret => true
  | .seq x _ => !isStop x
  | .block _ _ => true
  | .region _ _ d => !d
  | _ => false
def W (P : Program) (n : Nat) : Code → (Exit → Env → World → Prop) → Env → World → Prop
  | .skip, Q, env, w => Q .normal env w
  | .seq x y, Q, env, w => match isStop x with
    | true => CW P n (.seq x y) Q env w
    | false => W P n x (Then (fun env w => CW P n y Q env w) Q) env w
  | .cond c x y, Q, env, w => ev env c fun v => match v with
    | .bool b => sel b (CW P n x Q env w) (CW P n y Q env w)
    | _ => False
  | .block id x, Q, env, w => W P n x (InB id Q) env w
  | .exit id, Q, env, w => Q (.exit id) env w
  | .goto l, Q, env, w => Q (.goto l) env w
  | .label _, Q, env, w => Q .normal env w
  | .ret, Q, env, w => Q .ret env w
  | .region id ops draw, Q, env, w => match draw with
    | false => opsW P n ops.toList ops.toList env w fun env' w' => Q .normal env' w'
    | true => CW P n (.region id ops true) Q env w
  | .loop c, Q, env, w => CW P n (.loop c) Q env w
  | .scope c, Q, env, w => CW P n (.scope c) Q env w
  | .rangeFunc f ps x y, Q, env, w => CW P n (.rangeFunc f ps x y) Q env w
  | .refuse _, _, _, _ => False

section
variable {P : Program} {n : Nat} {ds : List Deferred} {env : Env} {a : Act} {w : World}

theorem St.put {d : Tmp} {v : Value} (h : St n ds env a) (hd : d < n) : St n ds ((d, v) :: env) (a.put (some d) v) := by
  refine ⟨by simp [Act.put, h.size], h.defers, fun t u hu => ?_⟩
  simp only [lk] at hu
  cases hb : Nat.beq d t with
  | true =>
    rw [hb] at hu
    have : d = t := Nat.eq_of_beq_eq_true hb
    subst this
    have hdn : d < a.tmps.size := by rw [h.size]; exact hd
    have huv : v = u := by simpa using hu
    subst huv
    simp [Act.put, hdn]
  | false =>
    rw [hb] at hu
    have hne : d ≠ t := fun e => by subst e; simp at hb
    have := h.val t u hu
    simp only [Act.put]
    rw [Array.getElem?_setIfInBounds_ne hne]
    exact this
theorem St.know {d : Tmp} {v : Value} (h : St n ds env a) (hd : a.tmps[d]? = some v) : St n ds ((d, v) :: env) a := by
  refine ⟨h.size, h.defers, fun t u hu => ?_⟩
  simp only [lk] at hu
  cases hb : Nat.beq d t with
  | true =>
    rw [hb] at hu
    have : d = t := Nat.eq_of_beq_eq_true hb
    subst this
    have huv : v = u := by simpa using hu
    subst huv
    exact hd
  | false => rw [hb] at hu; exact h.val t u hu
theorem St.less {env' : Env} (h : St n ds env a) (hs : ∀ t v, lk env' t = some v → lk env t = some v) : St n ds env' a :=
  ⟨h.size, h.defers, fun t v ht => h.val t v (hs t v ht)⟩

theorem dstW_sound {dst : Option Tmp} {v : Value} {K : Env → Prop} (h : St n ds env a) (hk : dstW n dst v env K) : ∃ env', St n ds env' (a.put dst v) ∧ K env' := by
  cases dst with
  | none => exact ⟨env, h, hk⟩
  | some d =>
    simp only [dstW] at hk
    cases hb : Nat.ble n d with
    | true => rw [hb] at hk; exact hk.elim
    | false =>
      rw [hb] at hk
      have hd : d < n := by
        apply Nat.lt_of_not_le; intro hle
        rw [Nat.ble_eq_true_of_le hle] at hb; cases hb
      exact ⟨_, h.put hd, hk⟩

theorem grdW_sound {ops : Array Oper} {o : Oper} {A B : Env → Prop} (h : St n ds env a) (hk : grdW ops.toList o.guard env A B) :
    ∃ env', St n ds env' a ∧ if Region.wanted o (yielded ops a.tmps) then A env' else B env' := by
  unfold grdW at hk
  cases hg : o.guard with
  | none => rw [hg] at hk; exact ⟨env, h, by simp only [Region.wanted, hg, if_true]; exact hk⟩
  | some g =>
    obtain ⟨j, want⟩ := g
    rw [hg] at hk
    simp only at hk
    cases hj : ops.toList[j]? with
    | none => rw [hj] at hk; exact hk.elim
    | some oj =>
      rw [hj] at hk
      simp only at hk
      cases hd : oj.dst with
      | none => rw [hd] at hk; exact hk.elim
      | some d =>
        rw [hd] at hk
        simp only at hk
        cases hl : lk env d with
        | none => rw [hl] at hk; exact hk.elim
        | some v =>
          rw [hl] at hk
          cases v with
          | bool b =>
            simp only at hk
            have hv := h.val d _ hl
            have hj' : ops[j]? = some oj := by simpa using hj
            have hy : yielded ops a.tmps j = some b := by simp [yielded, hj', hd, hv]
            have hw : Region.wanted o (yielded ops a.tmps) = (some b == some want) := by simp [Region.wanted, hg, hy]
            refine ⟨(d, .bool b) :: env, h.know hv, ?_⟩
            rw [hw]
            cases want <;> cases b <;> simpa [sel] using hk
          | tuple vs =>
            have hv := h.val d _ hl
            have hj' : ops[j]? = some oj := by simpa using hj
            have hy : yielded ops a.tmps j = none := by simp [yielded, hj', hd, hv]
            have hw : Region.wanted o (yielded ops a.tmps) = false := by simp [Region.wanted, hg, hy]
            refine ⟨env, h, ?_⟩
            rw [hw]
            exact hk
          | _ => exact hk.elim

theorem opsW_sound {ops : Array Oper} {K : Env → World → Prop} {Q' : Exit → Act → World → Prop} (hQ : ∀ env a w, St n ds env a → K env w → Q' .normal a w) :
    ∀ (l : List Oper) (k : Nat) (env : Env) (a : Act) (w : World), (∀ j, l[j]? = ops.toList[k + j]?) → St n ds env a → opsW P n ops.toList l env w K →
      wpOps P ops Q' (List.range' k l.length) a w
  | [], k, env, a, w, _, hst, h => by simpa [wpOps] using hQ env a w hst h
  | o :: l, k, env, a, w, hl, hst, h => by
    have h0 : ops[k]? = some o := by have := hl 0; simpa using this.symm
    have ih := opsW_sound (ops := ops) hQ l (k + 1)
    have hl' : ∀ j, l[j]? = ops.toList[k + 1 + j]? := fun j => by have := hl (j + 1); simpa [Nat.add_assoc, Nat.add_comm 1 j] using this
    simp only [List.length_cons, List.range'_succ, wpOps, h0]
    obtain ⟨env1, hst1, h1⟩ := grdW_sound hst h
    split
    · rename_i hw
      rw [if_pos hw] at h1
      refine .inl ?_
      have h2 := opW_sound hst1 h1
      simp only [Oper.wp]
      generalize (execOp a.eval o).run P w = r at h2
      have next : ∀ v w', (dstW n o.dst v env1 fun env' => opsW P n ops.toList l env' w' K) → wpOps P ops Q' (List.range' (k + 1) l.length) (a.put o.dst v) w' := by
        intro v w' hd
        obtain ⟨env2, hst2, hk2⟩ := dstW_sound hst1 hd
        exact ih env2 _ w' hl' hst2 hk2
      cases r with
      | halt x w' => exact h2.elim
      | ok nx w' =>
        cases nx with
        | value v => exact next v w' h2
        | skip => exact next undef w' h2
        | enter f args =>
          refine Calls.mono h2 ?_
          rintro e w'' ⟨v, rfl, hd⟩
          exact next v w'' hd
        | row r args => exact Rows.mono h2 fun v w'' hd => next v w'' hd
        | _ => exact h2.elim
    · rename_i hw
      rw [if_neg hw] at h1
      obtain ⟨env2, hst2, hk2⟩ := dstW_sound hst1 h1
      exact ih env2 _ w hl' hst2 hk2

theorem W_sound : ∀ (c : Code) {Q : Exit → Env → World → Prop} {env : Env} {w : World}, W P n c Q env w → CW P n c Q env w
  | .skip, Q, env, w, h => .mk fun ds a hst => wp_skip ⟨env, hst, h⟩
  | .seq x y, Q, env, w, h => by
    simp only [W] at h
    cases hs : isStop x with
    | true => rw [hs] at h; exact h
    | false =>
      rw [hs] at h
      refine .mk fun ds a hst => ?_
      have hx := (W_sound x h).out ds a hst
      refine wp_seq (Go.wp_mono hx ?_)
      rintro e a' w' ⟨env', hst', hq⟩
      cases e with
      | normal => exact hq.out ds a' hst'
      | _ => exact ⟨env', hst', hq⟩
  | .cond c x y, Q, env, w, h => .mk fun ds a hst => by
    have h1 := ev_sound hst h
    cases hc : a.eval c with
    | bool b =>
      rw [hc] at h1
      have h2 := sel_elim h1
      refine wp_cond hc ?_
      cases b
      · exact h2.out ds a hst
      · exact h2.out ds a hst
    | _ => rw [hc] at h1; exact h1.elim
  | .block id x, Q, env, w, h => .mk fun ds a hst => by
    have hx := (W_sound x h).out ds a hst
    refine wp_block (Go.wp_mono hx ?_)
    rintro e a' w' ⟨env', hst', hq⟩
    cases e with
    | exit i =>
      simp only [InB] at hq
      simp only [Exit.inBlock]
      by_cases hi : i = id
      · subst hi
        rw [if_pos rfl]
        simp only [Nat.beq_refl] at hq
        exact ⟨env', hst', hq⟩
      · rw [if_neg hi]
        have : Nat.beq i id = false := by
          cases hb : Nat.beq i id
          · rfl
          · exact absurd (Nat.eq_of_beq_eq_true hb) hi
        rw [this] at hq
        exact ⟨env', hst', hq⟩
    | _ => exact ⟨env', hst', hq⟩
  | .exit id, Q, env, w, h => .mk fun ds a hst => wp_exit ⟨env, hst, h⟩
  | .goto l, Q, env, w, h => .mk fun ds a hst => wp_goto ⟨env, hst, h⟩
  | .label l, Q, env, w, h => .mk fun ds a hst => wp_label ⟨env, hst, h⟩
  | .ret, Q, env, w, h => .mk fun ds a hst => wp_ret ⟨env, hst, h⟩
  | .region id ops draw, Q, env, w, h => by
    cases draw with
    | true => exact h
    | false =>
      refine .mk fun ds a hst => wp_region ?_
      have := opsW_sound (P := P) (ds := ds) (ops := ops) (Q' := fun e a' w' => ∃ env', St n ds env' a' ∧ Q e env' w') (K := fun env' w' => Q .normal env' w')
        (fun env a w h1 h2 => ⟨env, h1, h2⟩) ops.toList 0 env a w (by simp) hst h
      simpa [List.range_eq_range'] using this
  | .loop c, Q, env, w, h => h
  | .scope c, Q, env, w, h => h
  | .rangeFunc f ps x y, Q, env, w, h => h
end
end Go.Ev
