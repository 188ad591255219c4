/- A call, whole: from 'W' of a function's code to 'Calls'. And loops. Conditions: none. -/
import Derived.Test.YtfhfpklefgjeoaaEvF
namespace Go.Ev
open Go

def resW (P : Program) : List ResultVar → Env → World → (List Value → Prop) → Prop
  | [], _, _, k => k []
  | .tmp t :: r, env, w, k => ev env (.tmp t) fun v => resW P r env w fun vs => k (v :: vs)
  | .cell t ty :: r, env, w, k => ev env (.tmp t) fun v => match v with
    | .pointer (some p) => ldW P ty p w fun v => resW P r env w fun vs => k (v :: vs)
    | _ => False
def oneOr (vs : List Value) (K : Value → Prop) : Prop :=
  match vs with
  | [v] => K v
  | vs => K (.tuple vs.toArray)
def retW (P : Program) (rs : List ResultVar) (R : Ending → World → Prop) : Exit → Env → World → Prop
  | .normal, env, w => resW P rs env w fun vs => oneOr vs fun v => R (.returned v) w
  | .ret, env, w => resW P rs env w fun vs => oneOr vs fun v => R (.returned v) w
  | _, _, _ => False
def ent : Nat → List Value → Env
  | _, [] => []
  | i, v :: r => (i, v) :: ent (i + 1) r

section
variable {P : Program} {n : Nat} {ds : List Deferred} {env : Env} {a : Act} {w : World}

theorem lk_ent : ∀ (l : List Value) (i t : Nat) (v : Value), lk (ent i l) t = some v → i ≤ t ∧ l[t - i]? = some v
  | [], _, _, _, h => by cases h
  | x :: l, i, t, v, h => by
    simp only [ent, lk] at h
    cases hb : Nat.beq i t with
    | true =>
      rw [hb] at h
      have : i = t := Nat.eq_of_beq_eq_true hb
      subst this
      simpa using h
    | false =>
      rw [hb] at h
      have hne : i ≠ t := fun e => by subst e; simp at hb
      obtain ⟨h1, h2⟩ := lk_ent l (i + 1) t v h
      refine ⟨by omega, ?_⟩
      have : t - i = (t - (i + 1)) + 1 := by omega
      rw [this]; simpa using h2

def resF (a : Act) : ResultVar → Sem Value
  | .tmp t => pure (a.tmps.getD t undef)
  | .cell x t => do loadVar t (← asAddr (a.tmps.getD x undef))

theorem resW_run (a : Act) (hst : St n ds env a) : ∀ (rs : List ResultVar) {k : List Value → Prop}, resW P rs env w k →
    ∃ vs, (rs.mapM (resF a)).run P w = .ok vs w ∧ k vs
  | [], k, h => ⟨[], rfl, h⟩
  | .tmp t :: r, k, h => by
    have h1 := ev_sound hst h
    obtain ⟨vs, hv, hk⟩ := resW_run a hst r h1
    exact ⟨_, by simp only [List.mapM_cons, Sem.run_bind, resF, Sem.run_pure, Result.andThen_ok, hv]; rfl, hk⟩
  | .cell x t :: r, k, h => by
    have h1 := ev_sound hst h
    cases hx : a.eval (.tmp x) with
    | pointer p =>
      rw [hx] at h1
      cases p with
      | none => exact h1.elim
      | some p =>
        obtain ⟨v, hv, hk⟩ := ldW_run (P := P) h1
        obtain ⟨vs, hvs, hk2⟩ := resW_run a hst r hk
        have hx' : a.tmps.getD x undef = .pointer (some p) := hx
        have h3 : (resF a (.cell x t)).run P w = .ok v w := by
          simp only [resF, Sem.run_bind, hx', asAddr, Sem.run_pure, Result.andThen_ok, hv]
        exact ⟨v :: vs, by simp only [List.mapM_cons, Sem.run_bind, h3, Sem.run_pure, Result.andThen_ok, hvs], hk2⟩
    | _ => rw [hx] at h1; exact h1.elim

theorem retW_sound {fn : Func} {R : Ending → World → Prop} (hst : St n ds env a) (h : resW P fn.results.toList env w fun vs => oneOr vs fun v => R (.returned v) w) :
    ∃ v, (results fn a.tmps).run P w = .ok v w ∧ R (.returned v) w := by
  obtain ⟨vs, hv, hk⟩ := resW_run a hst _ h
  have hm : (fn.results.mapM (resF a)).run P w = .ok vs.toArray w := by
    rw [Array.mapM_eq_mapM_toList, Sem.run_map, hv]
    rfl
  have hr : results fn a.tmps = (do let vs ← fn.results.mapM (resF a); pure (if h : vs.size = 1 then vs[0] else .tuple vs)) := by
    unfold results
    have : (fun r : ResultVar => (match r with
      | .tmp t => pure (a.tmps.getD t undef)
      | .cell x t => do loadVar t (← asAddr (a.tmps.getD x undef)) : Sem Value)) = resF a := by
      funext r; cases r <;> rfl
    rw [← this]; rfl
  rw [hr]
  simp only [Sem.run_bind, hm, Result.andThen_ok, Sem.run_pure]
  match vs, hk with
  | [], hk => exact ⟨_, rfl, hk⟩
  | [v], hk => exact ⟨_, rfl, hk⟩
  | v :: u :: r, hk => exact ⟨.tuple (v :: u :: r).toArray, by simp, hk⟩

theorem calls_W {f : FuncId} {fn : Func} {c : Code} {args : List Value} {n : Nat} {R : Ending → World → Prop}
    (hf : P.funcs[f]? = some fn) (hb : fn.body = some c) (hn : fn.ntmps = n) (hl : Nat.ble args.length n = true)
    (h : W P n c (retW P fn.results.toList R) (ent 0 args) w) : Calls P f args.toArray w R := by
  subst hn
  have hl' : args.length ≤ fn.ntmps := Nat.le_of_ble_eq_true hl
  refine calls_of_wp hf hb ?_
  have hst : St fn.ntmps [] (ent 0 args) { tmps := args.toArray ++ Array.replicate (fn.ntmps - args.toArray.size) undef, defers := [] } := by
    refine ⟨by simp; omega, rfl, fun t v ht => ?_⟩
    obtain ⟨_, h2⟩ := lk_ent args 0 t v ht
    have h3 : args[t]? = some v := by simpa using h2
    have hlt : t < args.length := (List.getElem?_eq_some_iff.1 h3).1
    rw [Array.getElem?_append_left (by simpa using hlt)]
    simpa using h3
  refine Go.wp_mono ((W_sound c h).out [] _ hst) ?_
  rintro e a' w' ⟨env', hst', hq⟩
  cases e with
  | normal => exact ⟨hst'.defers, retW_sound hst' hq⟩
  | ret => exact ⟨hst'.defers, retW_sound hst' hq⟩
  | _ => exact hq.elim

theorem calls_code {f : FuncId} {fn : Func} {c : Code} {args : List Value} {n : Nat} {R : Ending → World → Prop}
    (hf : P.funcs[f]? = some fn) (hb : fn.body = some c) (hn : fn.ntmps = n) (hl : Nat.ble args.length n = true)
    (h : CW P n c (retW P fn.results.toList R) (ent 0 args) w) : Calls P f args.toArray w R := by
  subst hn
  have hl' : args.length ≤ fn.ntmps := Nat.le_of_ble_eq_true hl
  refine calls_of_wp hf hb ?_
  have hst : St fn.ntmps [] (ent 0 args) { tmps := args.toArray ++ Array.replicate (fn.ntmps - args.toArray.size) undef, defers := [] } := by
    refine ⟨by simp; omega, rfl, fun t v ht => ?_⟩
    obtain ⟨_, h2⟩ := lk_ent args 0 t v ht
    have h3 : args[t]? = some v := by simpa using h2
    have hlt : t < args.length := (List.getElem?_eq_some_iff.1 h3).1
    rw [Array.getElem?_append_left (by simpa using hlt)]
    simpa using h3
  refine Go.wp_mono (h.out [] _ hst) ?_
  rintro e a' w' ⟨env', hst', hq⟩
  cases e with
  | normal => exact ⟨hst'.defers, retW_sound hst' hq⟩
  | ret => exact ⟨hst'.defers, retW_sound hst' hq⟩
  | _ => exact hq.elim

/-- The temporaries that are kept at a loop's head, by their numbers. -/
def pick : List Nat → Env → (List Value → Prop) → Prop
  | [], _, k => k []
  | t :: r, env, k => match lk env t with
    | some v => pick r env fun vs => k (v :: vs)
    | none => False
def zipE : List Nat → List Value → Env
  | t :: r, v :: vs => (t, v) :: zipE r vs
  | _, _ => []
theorem lk_zipE : ∀ (ts : List Nat) (env : Env) {k : List Value → Prop}, pick ts env k → ∃ vs, k vs ∧ ∀ t v, lk (zipE ts vs) t = some v → lk env t = some v
  | [], _, _, h => ⟨[], h, fun t v ht => by cases ht⟩
  | t :: r, env, k, h => by
    simp only [pick] at h
    cases hl : lk env t with
    | none => rw [hl] at h; exact h.elim
    | some v =>
      rw [hl] at h
      obtain ⟨vs, hk, hs⟩ := lk_zipE r env h
      refine ⟨v :: vs, hk, fun u x hu => ?_⟩
      simp only [zipE, lk] at hu
      cases hb : Nat.beq t u with
      | true =>
        rw [hb] at hu
        have : t = u := Nat.eq_of_beq_eq_true hb
        subst this
        have hvx : v = x := by simpa using hu
        subst hvx
        exact hl
      | false => rw [hb] at hu; exact hs u x hu

theorem CW.less {c : Code} {Q : Exit → Env → World → Prop} {env env' : Env} (h : CW P n c Q env' w) (hs : ∀ t v, lk env' t = some v → lk env t = some v) : CW P n c Q env w :=
  .mk fun ds a hst => h.out ds a (hst.less hs)
/-- Go on knowing these temporaries alone. -/
theorem CW.keep {c : Code} {Q : Exit → Env → World → Prop} {env : Env} (ts : List Nat) (h : pick ts env fun vs => CW P n c Q (zipE ts vs) w) : CW P n c Q env w := by
  obtain ⟨vs, hk, hs⟩ := lk_zipE ts env h
  exact hk.less hs
theorem CW.mono {c : Code} {Q Q' : Exit → Env → World → Prop} {env : Env} (h : CW P n c Q env w) (hq : ∀ e env w, Q e env w → Q' e env w) : CW P n c Q' env w :=
  .mk fun ds a hst => Go.wp_mono (h.out ds a hst) fun _ _ _ ⟨env', h1, h2⟩ => ⟨env', h1, hq _ _ _ h2⟩

/-- A loop: 'ts' are the temporaries that its rounds need, 'I' says what they hold at the head (with a measure that falls). -/
theorem CW.loop {c : Code} {Q : Exit → Env → World → Prop} {env : Env} (ts : List Nat) (I : Nat → List Value → World → Prop)
    (h0 : pick ts env fun vs => ∃ m, I m vs w)
    (step : ∀ m vs w, I m vs w → CW P n c (Then (fun env' w' => pick ts env' fun vs' => ∃ m', m' < m ∧ I m' vs' w') Q) (zipE ts vs) w) :
    CW P n (.loop c) Q env w := by
  refine .mk fun ds a hst => ?_
  obtain ⟨vs0, ⟨m0, hI0⟩, hs0⟩ := lk_zipE ts env h0
  have key : ∀ m, ∀ a w vs, I m vs w → St n ds (zipE ts vs) a → ∀ b k cs, ∃ e a' w', (∃ env', St n ds env' a' ∧ Q e env' w') ∧
      Arrives P (lone (b.at a (.code c :: .inLoop c :: k)) cs w) b k cs e a' w' := by
    intro m
    induction m using Nat.strongRecOn with
    | _ m ih =>
      intro a w vs hI hst b k cs
      obtain ⟨e, a₁, w₁, ⟨env1, hst1, hq⟩, harr⟩ := (step m vs w hI).out ds a hst b (.inLoop c :: k) cs
      cases e with
      | normal =>
        obtain ⟨vs', ⟨m', hlt, hI'⟩, hs'⟩ := lk_zipE ts env1 hq
        obtain ⟨e₂, a₂, w₂, hq₂, harr₂⟩ := ih m' hlt a₁ w₁ vs' hI' (hst1.less hs') b k cs
        exact ⟨e₂, a₂, w₂, hq₂, .of_steps (Steps.trans harr (.one step_inLoop)) harr₂⟩
      | exit id => exact ⟨_, a₁, w₁, ⟨env1, hst1, hq⟩, .pass (x := .inLoop c) rfl (fun _ _ => .inl (by simp)) harr⟩
      | goto l => exact ⟨_, a₁, w₁, ⟨env1, hst1, hq⟩, .pass (x := .inLoop c) rfl (fun _ _ => .inl (by simp)) harr⟩
      | ret => exact ⟨_, a₁, w₁, ⟨env1, hst1, hq⟩, .pass (x := .inLoop c) rfl (fun _ _ => .inl (by simp)) harr⟩
      | panic ch => exact ⟨_, a₁, w₁, ⟨env1, hst1, hq⟩, .pass (x := .inLoop c) rfl (fun _ _ => .inl (by simp)) harr⟩
      | outgrown => exact ⟨_, a₁, w₁, ⟨env1, hst1, hq⟩, .pass (x := .inLoop c) rfl (fun _ _ => .inl (by simp)) harr⟩
  intro b k cs
  obtain ⟨e, a', w', hq, harr⟩ := key m0 a w vs0 hI0 (hst.less hs0) b k cs
  exact ⟨e, a', w', hq, .of_steps (.one step_loop) harr⟩

/-- On through an 'if' or a block, each way by itself. -/
theorem CW.go {x y : Code} {Q : Exit → Env → World → Prop} {env : Env} (h : W P n x (Then (fun env w => CW P n y Q env w) Q) env w) : CW P n (.seq x y) Q env w := by
  refine .mk fun ds a hst => ?_
  refine wp_seq (Go.wp_mono ((W_sound x h).out ds a hst) ?_)
  rintro e a' w' ⟨env', hst', hq⟩
  cases e with
  | normal => exact hq.out ds a' hst'
  | _ => exact ⟨env', hst', hq⟩
/-- On through an 'if' or a block, the ways meeting again behind it: 'ts' are the temporaries that are still needed. -/
theorem CW.join {x y : Code} {Q : Exit → Env → World → Prop} {env : Env} (ts : List Nat) (M : List Value → World → Prop) (h : W P n x (Then (fun env w => pick ts env fun vs => M vs w) Q) env w)
    (h2 : ∀ vs w, M vs w → CW P n y Q (zipE ts vs) w) : CW P n (.seq x y) Q env w := by
  refine .mk fun ds a hst => ?_
  refine wp_seq (Go.wp_mono ((W_sound x h).out ds a hst) ?_)
  rintro e a' w' ⟨env', hst', hq⟩
  cases e with
  | normal =>
    obtain ⟨vs, hm, hs⟩ := lk_zipE ts env' hq
    exact (h2 vs w' hm).out ds a' (hst'.less hs)
  | _ => exact ⟨env', hst', hq⟩
/-- The same where a piece stands last. -/
theorem CW.run {x : Code} {Q : Exit → Env → World → Prop} {env : Env} (_ : isRun x = true) (h : W P n x Q env w) : CW P n x Q env w := W_sound x h
end
end Go.Ev
