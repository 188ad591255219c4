/- The operations and the code: 'opW', 'opsW', 'W' are sound. Conditions: none. -/
import Derived.Test.YtfhfpklefgjeoaaEvD
namespace Go.Ev
open Go

section
variable {P : Program} {n : Nat} {ds : List Deferred} {env : Env} {a : Act} {w : World}

theorem zip_map_eval (f : Operand → Value) : ∀ (ps : List (Nat × Operand)), (ps.map (·.1)).zip ((ps.map (·.2)).map f) = ps.map fun (i, x) => (i, f x)
  | [] => rfl
  | p :: ps => by
    simp only [List.map_cons, List.zip_cons_cons, zip_map_eval f ps]
theorem map_list_array {α β : Type} (f : α → β) (x : Array α) : (x.toList.map f).toArray = x.map f := by
  apply Array.ext'; simp
theorem opt_head {α β : Type} (f : α → β) (x : Option α) : (x.toList.map f).head? = x.map f := by cases x <;> rfl

theorem upon_runsN {s : Sem Next} {K : Value → World → Prop} (h : RunsN P s w K) : Upon P K (s.run P w) := h.out

theorem pureN {s : Sem Value} {v : Value} {k : Value → Prop} (h : ∀ w, s.run P w = .ok v w) (hk : k v) : ∃ v, (∀ w, (do pure (Next.value (← s)) : Sem Next).run P w = .ok (.value v) w) ∧ k v :=
  ⟨v, fun w => by simp only [Sem.run_bind, h w, Result.andThen_ok, Sem.run_pure], hk⟩

theorem opP_sound {o : Oper} {K : Value → Prop} (hst : St n ds env a) (h : opP P o env K) : ∃ v, (∀ w, (execOp a.eval o).run P w = .ok (.value v) w) ∧ K v := by
  obtain ⟨dst, op, ty, pos, after, guard⟩ := o
  cases op with
  | move x => exact ⟨_, fun _ => rfl, ev_sound hst h⟩
  | assign x => exact ⟨_, fun _ => rfl, ev_sound hst h⟩
  | pick c x y =>
    have h1 := ev_sound hst h
    simp only [execOp, Sem.run_bind]
    cases hc : a.eval c with
    | bool t =>
      rw [hc] at h1
      have h2 := sel_elim h1
      cases t
      · exact ⟨_, fun _ => rfl, ev_sound hst h2⟩
      · exact ⟨_, fun _ => rfl, ev_sound hst h2⟩
    | _ => rw [hc] at h1; exact h1.elim
  | build t ps =>
    have h1 := evs_sound hst _ h
    rw [zip_map_eval] at h1
    obtain ⟨cs, hr, hk⟩ := buildW_run h1
    rw [map_list_array] at hr
    exact pureN hr (by simpa using hk)
  | nilCheck x =>
    have h1 := ev_sound hst h
    simp only [execOp]
    cases hc : a.eval x with
    | pointer p =>
      cases p with
      | none => rw [hc] at h1; exact h1.elim
      | some p => rw [hc] at h1; exact ⟨_, fun _ => rfl, h1⟩
    | iface t u => rw [hc] at h1; exact ⟨_, fun _ => rfl, h1⟩
    | func fn x y =>
      rw [hc] at h1
      cases fn with
      | func g => exact ⟨_, fun _ => rfl, h1⟩
      | _ => exact h1.elim
    | _ => rw [hc] at h1; exact h1.elim
  | binOp op t x y u =>
    obtain ⟨v, hv, hk⟩ := binP_run (ev_sound hst (ev_sound hst h))
    exact pureN hv hk
  | unOp op t x =>
    have h1 := ev_sound hst h
    simp only [execOp]
    cases hc : a.eval x with
    | int k m =>
      rw [hc] at h1
      cases op with
      | neg => exact pureN (v := .int k (k.wrap (0 - m))) (fun _ => rfl) h1.out
      | _ => exact h1.elim
    | bool b =>
      rw [hc] at h1
      cases op with
      | not => exact pureN (v := .bool (!b)) (fun _ => rfl) h1
      | _ => exact h1.elim
    | _ => rw [hc] at h1; exact h1.elim
  | convert s d x =>
    have h1 := ev_sound hst h
    simp only [execOp]
    cases hc : a.eval x with
    | int k m =>
      rw [hc] at h1
      simp only at h1
      cases hs : P.underlying s with
      | none => rw [hs] at h1; exact h1.elim
      | some sd =>
        rw [hs] at h1
        cases hd : P.underlying d with
        | none => rw [hd] at h1; exact h1.elim
        | some dd =>
          rw [hd] at h1
          cases dd with
          | int k' => exact pureN (v := .int k' (k'.wrap m)) (fun w => by simp [convert, run_und hs, run_und hd, Conv.intToInt]) h1.out
          | _ => exact h1.elim
    | _ => rw [hc] at h1; exact h1.elim
  | makeInterface t x =>
    have h1 := ev_sound hst h
    simp only [execOp]
    cases hu : P.underlying t with
    | none => simp only [isIface, hu] at h1
    | some d =>
      cases d with
      | interface ms => simp only [isIface, hu] at h1
      | _ => simp only [isIface, hu] at h1; exact pureN (v := .iface t (a.eval x)) (fun w => by simp [Instr.makeInterface, run_und hu]) h1
  | makeFunc fn x y =>
    have h1 := evs_sound hst _ (evs_sound hst _ h)
    rw [map_list_array, map_list_array] at h1
    exact pureN (fun _ => rfl) h1
  | fieldAddr s x f =>
    have h1 := ev_sound hst h
    simp only [execOp]
    cases hc : a.eval x with
    | pointer p =>
      rw [hc] at h1
      cases p with
      | none => exact h1.elim
      | some p =>
        obtain ⟨b, o, sp⟩ := p
        cases sp with
        | some sp => exact h1.elim
        | none =>
          simp only at h1
          cases hu : P.underlying s with
          | none => rw [hu] at h1; exact h1.elim
          | some d =>
            rw [hu] at h1
            cases d with
            | struct fs =>
              simp only at h1
              cases hf : fs.toList[f]? with
              | none => rw [hf] at h1; exact h1.elim
              | some fd =>
                rw [hf] at h1
                simp only at h1
                cases hi : P.info? fd.type with
                | none => rw [hi] at h1; exact h1.elim
                | some i =>
                  rw [hi] at h1
                  simp only at h1
                  cases hz : Nat.beq i.size 0 with
                  | true => rw [hz] at h1; exact h1.elim
                  | false =>
                    rw [hz] at h1
                    have h1 := litN_eq h1
                    have hz' : ¬ i.size = 0 := fun e => by rw [e] at hz; cases hz
                    have hf' : fs[f]? = some fd := by simpa using hf
                    refine pureN (fun w => ?_) h1
                    simp only [Instr.fieldAt, Sem.run_bind, run_und hu, Result.andThen_ok, hf', Instr.sureAddr, Sem.run_pure, fieldPlace, run_siz hi, hz', if_false, Addr.add]
                    by_cases h0 : fd.offset = 0
                    · simp [h0]
                    · simp [h0]
            | _ => exact h1.elim
    | _ => rw [hc] at h1; exact h1.elim
  | field t x f =>
    have h1 := ev_sound hst h
    simp only [execOp]
    cases hc : a.eval x with
    | agg cs =>
      rw [hc] at h1
      simp only at h1
      cases hu : P.underlying t with
      | none => rw [hu] at h1; exact h1.elim
      | some d =>
        rw [hu] at h1
        cases d with
        | struct fs =>
          simp only at h1
          cases hf : fs.toList[f]? with
          | none => rw [hf] at h1; exact h1.elim
          | some fd =>
            rw [hf] at h1
            obtain ⟨v, hv, hk⟩ := partW_run (P := P) (litN_eq h1)
            have hf' : fs[f]? = some fd := by simpa using hf
            exact pureN (fun w => by simpa [Instr.field, run_und hu, hf', asAgg] using hv w) hk
        | _ => exact h1.elim
    | _ => rw [hc] at h1; exact h1.elim
  | indexAddr t x i =>
    have h1 := ev_sound hst (ev_sound hst h)
    simp only [execOp]
    cases hvi : a.eval i with
    | int k m =>
      rw [hvi] at h1
      cases hvx : a.eval x with
      | slice base len cp =>
        rw [hvx] at h1
        simp only at h1
        cases hu : P.underlying t with
        | none => rw [hu] at h1; exact h1.elim
        | some d =>
          rw [hu] at h1
          cases d with
          | slice e =>
            simp only at h1
            cases hi : P.info? e with
            | none => rw [hi] at h1; exact h1.elim
            | some inf =>
              rw [hi] at h1
              obtain ⟨⟨hb1, hb2, b, o, rfl⟩, hk⟩ := (litN_eq h1).out
              have hb : 0 ≤ m ∧ m < ↑len := ⟨hb1, hb2⟩
              refine pureN (fun w => ?_) hk
              simp only [Instr.indexAt, asIntOf, Sem.run_bind, Sem.run_pure, Result.andThen_ok, run_und hu, hb, and_self, if_true, run_siz hi, Addr.add, blk, off]
              by_cases h0 : m.toNat * inf.size = 0
              · simp [h0]
              · simp [h0]
          | _ => exact h1.elim
      | pointer p =>
        rw [hvx] at h1
        cases p with
        | none => exact h1.elim
        | some p =>
          obtain ⟨b, o, sp⟩ := p
          cases sp with
          | some sp => exact h1.elim
          | none =>
            simp only at h1
            cases hu : P.underlying t with
            | none => rw [hu] at h1; exact h1.elim
            | some d =>
              rw [hu] at h1
              cases d with
              | array len e =>
                simp only at h1
                cases hi : P.info? e with
                | none => rw [hi] at h1; exact h1.elim
                | some inf =>
                  rw [hi] at h1
                  obtain ⟨hb, hk⟩ := (litN_eq h1).out
                  refine pureN (fun w => ?_) hk
                  simp only [Instr.indexAt, asIntOf, Instr.sureAddr, Sem.run_bind, Sem.run_pure, Result.andThen_ok, run_und hu, hb, and_self, if_true, run_siz hi, Addr.add]
                  by_cases h0 : m.toNat * inf.size = 0
                  · simp [h0]
                  · simp [h0]
              | _ => exact h1.elim
      | _ => rw [hvx] at h1; exact h1.elim
    | _ => rw [hvi] at h1; exact h1.elim
  | extract x i =>
    have h1 := ev_sound hst h
    simp only [execOp]
    cases hc : a.eval x with
    | tuple vs =>
      rw [hc] at h1
      simp only at h1
      cases hf : vs.toList[i]? with
      | none => rw [hf] at h1; exact h1.elim
      | some v =>
        rw [hf] at h1
        have hf' : vs[i]? = some v := by simpa using hf
        exact pureN (fun w => by simp [Instr.extract, hf']) h1
    | _ => rw [hc] at h1; exact h1.elim
  | call c =>
    obtain ⟨callee, args, argTypes⟩ := c
    cases callee with
    | builtin b =>
      have red : ∀ (s : Sem Value) (v : Value), (builtin b argTypes ty (args.map fun | .const _ => true | _ => false) (args.toList.map a.eval).toArray = (do pure (.value (← s)) : Sem Next)) → (∀ w, s.run P w = .ok v w) → K v →
          ∃ v, (∀ w, (execOp a.eval ⟨dst, .call ⟨.builtin b, args, argTypes⟩, ty, pos, after, guard⟩).run P w = .ok (.value v) w) ∧ K v := by
        intro s v hs hr hk
        refine ⟨v, fun w => ?_, hk⟩
        rw [map_list_array] at hs
        have : (builtin b argTypes ty (args.map fun | .const _ => true | _ => false) (args.map a.eval)).run P w = .ok (.value v) w := by
          rw [hs]; simp only [Sem.run_bind, hr w, Result.andThen_ok, Sem.run_pure]
        simp only [execOp, resolve, invoke, Sem.run_bind, Sem.run_pure, Result.andThen_ok]
        exact this
      have arg0 : ∀ t r, argTypes.toList = t :: r → argTypes[0]? = some t := by
        intro t r e
        have : argTypes.toList[0]? = some t := by rw [e]; rfl
        simpa using this
      cases b with
      | len =>
        have h1 := evs_sound hst _ h
        have red := fun v => red (Builtin.len_ argTypes ty (args.toList.map a.eval).toArray) v rfl
        generalize args.toList.map a.eval = vs at h1 red
        match vs, h1 with
        | [v], h1 =>
          cases v with
          | slice bb m cp =>
            simp only at h1
            cases ht : argTypes.toList with
            | nil => rw [ht] at h1; exact h1.elim
            | cons t r =>
              rw [ht] at h1
              simp only at h1
              cases hu : P.underlying t with
              | none => rw [hu] at h1; exact h1.elim
              | some d =>
                rw [hu] at h1
                cases d with
                | slice e => exact red _ (fun w => by simp [Builtin.len_, arg0 t r ht, run_und hu, goInt]) h1
                | _ => exact h1.elim
          | string s =>
            simp only at h1
            cases ht : argTypes.toList with
            | nil => rw [ht] at h1; exact h1.elim
            | cons t r =>
              rw [ht] at h1
              simp only at h1
              cases hu : P.underlying t with
              | none => rw [hu] at h1; exact h1.elim
              | some d =>
                rw [hu] at h1
                cases d with
                | string => exact red _ (fun w => by simp [Builtin.len_, arg0 t r ht, run_und hu, goInt]) h1
                | _ => exact h1.elim
          | _ => exact h1.elim
        | [], h1 => exact h1.elim
        | v :: v2 :: r, h1 => cases v <;> exact h1.elim
      | min =>
        have h1 := evs_sound hst _ h
        have red := fun v => red (Builtin.min_ argTypes ty (args.toList.map a.eval).toArray) v rfl
        generalize args.toList.map a.eval = vs at h1 red
        match vs, h1 with
        | [], h1 => exact h1.elim
        | [v], h1 => cases v <;> exact h1.elim
        | [v, v2], h1 =>
          cases v with
          | int k x =>
            cases v2 with
            | int k2 y => exact red _ (fun w => by simp [Builtin.min_, Builtin.min2]) h1
            | _ => exact h1.elim
          | _ => exact h1.elim
        | v :: v2 :: v3 :: r, h1 => cases v <;> cases v2 <;> exact h1.elim
      | max =>
        have h1 := evs_sound hst _ h
        have red := fun v => red (Builtin.max_ argTypes ty (args.toList.map a.eval).toArray) v rfl
        generalize args.toList.map a.eval = vs at h1 red
        match vs, h1 with
        | [], h1 => exact h1.elim
        | [v], h1 => cases v <;> exact h1.elim
        | [v, v2], h1 =>
          cases v with
          | int k x =>
            cases v2 with
            | int k2 y => exact red _ (fun w => by simp [Builtin.max_, Builtin.max2]) h1
            | _ => exact h1.elim
          | _ => exact h1.elim
        | v :: v2 :: v3 :: r, h1 => cases v <;> cases v2 <;> exact h1.elim
      | _ => exact h.elim
    | _ => exact h.elim
  | _ => exact h.elim

theorem opW_sound {o : Oper} {K : Value → World → Prop} (hst : St n ds env a) (h : opW P o env w K) : Upon P K ((execOp a.eval o).run P w) := by
  obtain ⟨dst, op, ty, pos, after, guard⟩ := o
  have fall : OpP P ⟨dst, op, ty, pos, after, guard⟩ env w K → Upon P K ((execOp a.eval ⟨dst, op, ty, pos, after, guard⟩).run P w) := by
    intro h; exact h.unf n ds a hst
  have puW : ∀ {o : Oper}, (opP P o env fun v => K v w) → Upon P K ((execOp a.eval o).run P w) := by
    intro o h
    obtain ⟨v, hv, hk⟩ := opP_sound hst h
    rw [hv w]; exact hk
  cases op with
  | move x => exact puW h
  | assign x => exact puW h
  | pick c x y => exact puW h
  | alloc e =>
    obtain ⟨z, hz, hk⟩ := zeroW_run (w := w) h
    refine upon_value (.mk _ _ ?_ hk.out)
    simp [Instr.alloc, hz, newVar, newRow, ← vcells_eq]
  | box e x =>
    have h1 := forceL_eq _ (ev_sound hst h)
    refine upon_value (.mk _ _ ?_ h1.out)
    simp [Instr.box, newVar, newRow, ← vcells_eq]
  | build t ps => exact puW h
  | buildSlice t len ps =>
    have h1 := evs_sound hst _ h
    rw [zip_map_eval] at h1
    obtain ⟨e, cs, hr, hk⟩ := bsliceW_run (w := w) h1
    rw [map_list_array] at hr
    exact upon_value (.mk _ _ hr hk.out)
  | load t x =>
    have h1 := ev_sound hst h
    simp only [execOp]
    cases hc : a.eval x with
    | pointer p =>
      cases p with
      | none => rw [hc] at h1; exact h1.elim
      | some p =>
        rw [hc] at h1
        obtain ⟨v, hv, hk⟩ := ldW_run (P := P) h1
        exact upon_pure (by simpa [Instr.loadAt, Instr.sureAddr, Sem.run_bind] using hv) hk
    | _ => rw [hc] at h1; exact h1.elim
  | store t x y => exact upon_unit (ev_sound hst (ev_sound hst h))
  | nilCheck x => exact puW h
  | binOp op t x y u => exact upon_value (binW_run (ev_sound hst (ev_sound hst h)))
  | unOp op t x =>
    have h1 := ev_sound hst h
    simp only [execOp]
    cases hc : a.eval x with
    | int k m =>
      rw [hc] at h1
      cases op with
      | neg => exact upon_pure (v := .int k (k.wrap (0 - m))) rfl h1.out
      | _ => exact h1.elim
    | bool b =>
      rw [hc] at h1
      cases op with
      | not => exact upon_pure (v := .bool (!b)) rfl h1
      | _ => exact h1.elim
    | _ => rw [hc] at h1; exact upon_value h1
  | convert s d x =>
    have h1 := ev_sound hst h
    simp only [execOp]
    cases hc : a.eval x with
    | int k m =>
      rw [hc] at h1
      simp only at h1
      cases hs : P.underlying s with
      | none => rw [hs] at h1; exact h1.elim
      | some sd =>
        rw [hs] at h1
        cases hd : P.underlying d with
        | none => rw [hd] at h1; exact upon_value h1
        | some dd =>
          rw [hd] at h1
          cases dd with
          | int k' => exact upon_pure (v := .int k' (k'.wrap m)) (by simp [convert, run_und hs, run_und hd, Conv.intToInt]) h1.out
          | _ => exact upon_value h1
    | _ => rw [hc] at h1; exact upon_value h1
  | makeInterface t x => exact puW h
  | makeFunc fn x y => exact puW h
  | makeSlice t x y => exact upon_value (ev_sound hst (ev_sound hst h))
  | fieldAddr s x f => exact puW h
  | field t x f => exact puW h
  | indexAddr t x i => exact puW h
  | index t x i => exact upon_value (ev_sound hst (ev_sound hst h))
  | extract x i => exact puW h
  | call c =>
    obtain ⟨callee, args, argTypes⟩ := c
    cases callee with
    | value f =>
      have h1 := evs_sound hst _ (ev_sound hst h)
      simp only at h1
      simp only [execOp, resolve]
      cases hf : a.eval f with
      | func fn fs cs =>
        rw [hf] at h1
        have e1 : ∀ (fn : Fn), ((do let d ← Deferred.ofValue (.func fn fs cs) (args.map a.eval); invoke d.target d.args : Sem Next)).run P w =
            (invoke (.fn fn cs) (fs ++ args.map a.eval)).run P w := fun fn => by simp [Deferred.ofValue]
        rw [e1]
        cases fn with
        | func g =>
          have h2 := (CallF.out (forceL_eq _ h1)).out
          have e2 : (fs.toList ++ List.map a.eval args.toList ++ cs.toList).toArray = fs ++ args.map a.eval ++ cs := by apply Array.ext'; simp
          rw [e2] at h2
          exact h2
        | _ =>
          have h2 := RunsN.out h1
          rw [map_list_array] at h2
          exact h2
      | _ => rw [hf] at h1; exact h1.elim
    | invoke r m =>
      have h1 := (CallM.out (forceL_eq _ (evs_sound hst _ (ev_sound hst h)))).out
      rw [map_list_array] at h1
      simp only [execOp, resolve]
      have e1 : ((do let d ← (pure { target := .fn (.method m) #[], args := #[a.eval r] ++ args.map a.eval } : Sem Deferred); invoke d.target d.args : Sem Next)).run P w =
          (callMethod (a.eval r) m (args.map a.eval)).run P w := by
        have e0 : (#[a.eval r] ++ args.map a.eval)[0]? = some (a.eval r) := by rw [Array.getElem?_append_left (by simp)]; rfl
        have e2 : (#[a.eval r] ++ args.map a.eval).extract 1 (#[a.eval r] ++ args.map a.eval).size = args.map a.eval := by apply Array.ext'; simp; rw [List.take_of_length_le (by simp)]
        simp only [Sem.run_bind, Sem.run_pure, Result.andThen_ok, invoke, e0, e2]
      rw [e1]
      exact h1
    | builtin b =>
      have red : ∀ (s : Sem Value), (builtin b argTypes ty (args.map fun | .const _ => true | _ => false) (args.map a.eval) = (do pure (.value (← s)) : Sem Next)) → Runs P s w K →
          Upon P K ((execOp a.eval ⟨dst, .call ⟨.builtin b, args, argTypes⟩, ty, pos, after, guard⟩).run P w) := by
        intro s hs hr
        have := upon_value hr
        rw [← hs] at this
        simp only [execOp, resolve, invoke, Sem.run_bind, Sem.run_pure, Result.andThen_ok]
        exact this
      cases b with
      | len =>
        have h1 := evs_sound hst _ h
        rw [← map_list_array a.eval args] at red
        refine red (Builtin.len_ argTypes ty (args.toList.map a.eval).toArray) rfl ?_
        generalize hvs : args.toList.map a.eval = vs at h1
        have fallL : Runs P (Builtin.len_ argTypes ty vs.toArray) w K → Runs P (Builtin.len_ argTypes ty vs.toArray) w K := id
        match vs, h1 with
        | [], h1 => exact h1
        | [v], h1 =>
          have arg0 : ∀ t r, argTypes.toList = t :: r → argTypes[0]? = some t := by
            intro t r e
            have : argTypes.toList[0]? = some t := by rw [e]; rfl
            simpa using this
          cases v with
          | slice bb m cp =>
            simp only at h1
            cases ht : argTypes.toList with
            | nil => rw [ht] at h1; exact h1.elim
            | cons t r =>
              rw [ht] at h1
              simp only at h1
              cases hu : P.underlying t with
              | none => rw [hu] at h1; exact h1.elim
              | some d =>
                rw [hu] at h1
                cases d with
                | slice e => exact .mk _ _ (by simp [Builtin.len_, arg0 t r ht, run_und hu, goInt]) h1
                | _ => exact h1.elim
          | string s =>
            simp only at h1
            cases ht : argTypes.toList with
            | nil => rw [ht] at h1; exact h1.elim
            | cons t r =>
              rw [ht] at h1
              simp only at h1
              cases hu : P.underlying t with
              | none => rw [hu] at h1; exact h1.elim
              | some d =>
                rw [hu] at h1
                cases d with
                | string => exact .mk _ _ (by simp [Builtin.len_, arg0 t r ht, run_und hu, goInt]) h1
                | _ => exact h1.elim
          | _ => exact h1
        | v :: v2 :: r, h1 => cases v <;> exact h1
      | append =>
        have h1 := evs_sound hst _ h
        rw [map_list_array] at h1
        exact red _ rfl h1
      | copy =>
        have h1 := evs_sound hst _ h
        rw [map_list_array] at h1
        exact red _ rfl h1
      | delete =>
        have h1 := evs_sound hst _ h
        rw [map_list_array] at h1
        exact red _ rfl h1
      | complex =>
        have h1 := evs_sound hst _ h
        rw [map_list_array] at h1
        exact red _ rfl h1
      | real =>
        have h1 := evs_sound hst _ h
        rw [map_list_array] at h1
        exact red _ rfl h1
      | imag =>
        have h1 := evs_sound hst _ h
        rw [map_list_array] at h1
        exact red _ rfl h1
      | min =>
        have h1 := evs_sound hst _ h
        rw [← map_list_array a.eval args] at red
        refine red (Builtin.min_ argTypes ty (args.toList.map a.eval).toArray) rfl ?_
        generalize args.toList.map a.eval = vs at h1
        match vs, h1 with
        | [], h1 => exact h1
        | [v], h1 => cases v <;> exact h1
        | [v, v2], h1 =>
          cases v with
          | int k x =>
            cases v2 with
            | int k2 y => exact .mk _ _ (by simp [Builtin.min_, Builtin.min2]) h1
            | _ => exact h1
          | _ => exact h1
        | v :: v2 :: v3 :: r, h1 => cases v <;> cases v2 <;> exact h1
      | max =>
        have h1 := evs_sound hst _ h
        rw [← map_list_array a.eval args] at red
        refine red (Builtin.max_ argTypes ty (args.toList.map a.eval).toArray) rfl ?_
        generalize args.toList.map a.eval = vs at h1
        match vs, h1 with
        | [], h1 => exact h1
        | [v], h1 => cases v <;> exact h1
        | [v, v2], h1 =>
          cases v with
          | int k x =>
            cases v2 with
            | int k2 y => exact .mk _ _ (by simp [Builtin.max_, Builtin.max2]) h1
            | _ => exact h1
          | _ => exact h1
        | v :: v2 :: v3 :: r, h1 => cases v <;> cases v2 <;> exact h1
      | _ => exact fall h
  | lookup t x i ok => exact upon_value (ev_sound hst (ev_sound hst h))
  | mapUpdate t m k x => exact upon_unit (ev_sound hst (ev_sound hst (ev_sound hst h)))
  | slice t x lo hi mx =>
    have h1 := evs_sound hst _ (evs_sound hst _ (evs_sound hst _ (ev_sound hst h)))
    rw [opt_head, opt_head, opt_head] at h1
    exact upon_value h1
  | typeAssert x t u ok => exact upon_value (ev_sound hst h)
  | _ => exact fall h
end
end Go.Ev
