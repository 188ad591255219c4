/- What each operation comes to is what the model makes of it. Conditions: none. -/
import Derived.Test.YtfhfpklefgjeoaaEvB
import Derived.Laws.Sem
namespace Go.Ev
open Go

section
variable {P : Program} {n : Nat} {ds : List Deferred} {env : Env} {a : Act} {w : World}

theorem run_und {t : TypeId} {d : TypeDesc} (h : P.underlying t = some d) (w : World) : (underlying t).run P w = .ok d w := by
  simp [underlying, h]
theorem run_inf {t : TypeId} {i : TypeInfo} (h : P.info? t = some i) (w : World) : (typeInfo t).run P w = .ok i w := by
  simp [typeInfo, h]
theorem run_siz {t : TypeId} {i : TypeInfo} (h : P.info? t = some i) (w : World) : (sizeOf t).run P w = .ok i.size w := by
  simp [Go.sizeOf, run_inf h]
def isAggD : TypeDesc → Bool
  | .struct _ | .array _ _ => true
  | _ => false
theorem run_agg {t : TypeId} {d : TypeDesc} (h : P.underlying t = some d) (w : World) :
    (isAgg t).run P w = .ok (isAggD d) w := by
  simp only [isAgg, Sem.run_bind, run_und h, Result.andThen_ok]
  cases d <;> rfl

theorem upon_value {K : Value → World → Prop} {s : Sem Value} (h : Runs P s w K) : Upon P K ((do pure (Next.value (← s)) : Sem Next).run P w) := by
  obtain ⟨v, w', hr, hk⟩ := h.out
  simp only [Sem.run_bind, hr, Result.andThen_ok, Sem.run_pure]
  exact hk
theorem upon_unit {K : Value → World → Prop} {s : Sem Unit} (h : Runs P s w fun _ w' => K undef w') : Upon P K ((do s; pure Next.skip : Sem Next).run P w) := by
  obtain ⟨v, w', hr, hk⟩ := h.out
  simp only [Sem.run_bind, hr, Result.andThen_ok, Sem.run_pure]
  exact hk
theorem upon_pure {K : Value → World → Prop} {s : Sem Value} {v : Value} (h : s.run P w = .ok v w) (hk : K v w) : Upon P K ((do pure (Next.value (← s)) : Sem Next).run P w) :=
  upon_value (.mk v w h hk)

theorem run_loadCellsFrom {p : Addr} : ∀ (m i : Nat) (cs : List Value) (acc : Array Value), cs.length = m → (∀ j, j < m → w.cell? (p.add (i + j)) = cs[j]?) →
    (loadCellsFrom p i m acc).run P w = .ok (acc ++ cs.toArray) w
  | 0, i, cs, acc, hl, _ => by
    have : cs = [] := List.length_eq_zero_iff.1 hl
    subst this
    simp [loadCellsFrom]
  | m + 1, i, [], acc, hl, _ => by simp at hl
  | m + 1, i, c :: cs, acc, hl, h => by
    have h0 := h 0 (by omega)
    simp only [Nat.add_zero, List.getElem?_cons_zero] at h0
    simp only [loadCellsFrom, Sem.run_bind, run_load, h0, Result.andThen_ok]
    rw [run_loadCellsFrom m (i + 1) cs (acc.push c) (by simpa using hl) (fun j hj => by
      have := h (j + 1) (by omega)
      simp only [List.getElem?_cons_succ] at this
      rw [← this]; congr 2; omega)]
    simp

theorem ldW_run {t : TypeId} {p : Addr} {K : Value → Prop} (h : ldW P t p w K) : ∃ v, (loadVar t p).run P w = .ok v w ∧ K v := by
  unfold ldW at h
  cases hu : P.underlying t with
  | none => rw [hu] at h; exact h.elim
  | some d =>
    rw [hu] at h
    have hag := run_agg hu w
    have row : ∀ (hd : isAggD d = true), (match P.info? t with
        | some i => litN i.size fun sz => LdN w p sz fun cs => K (.agg cs.toArray)
        | none => False) → ∃ v, (loadVar t p).run P w = .ok v w ∧ K v := by
      intro hd hrow
      cases hi : P.info? t with
      | none => rw [hi] at hrow; exact hrow.elim
      | some i =>
        rw [hi] at hrow
        obtain ⟨cs, hl, hc, hk⟩ := (litN_eq hrow).out
        refine ⟨_, ?_, hk⟩
        rw [hd] at hag
        simp only [loadVar, Sem.run_bind, hag, Result.andThen_ok, if_true, run_siz hi, Sem.run_pure, loadCells]
        rw [run_loadCellsFrom i.size 0 cs #[] hl (fun j hj => by simpa using hc j hj)]
        simp
    have one : ∀ (hd : isAggD d = false), Ld w p K → ∃ v, (loadVar t p).run P w = .ok v w ∧ K v := by
      intro hd h1
      obtain ⟨v, hc, hk⟩ := h1.out
      rw [hd] at hag
      exact ⟨v, by simp [loadVar, Sem.run_bind, hag, hc], hk⟩
    cases d <;> first | exact row rfl h | exact one rfl h

theorem partW_run {t : TypeId} {cs : Array Value} {off : Nat} {K : Value → Prop} (h : partW P t cs off K) : ∃ v, (∀ w, (part t cs off).run P w = .ok v w) ∧ K v := by
  unfold partW at h
  cases hu : P.underlying t with
  | none => rw [hu] at h; exact h.elim
  | some d =>
    rw [hu] at h
    have hag := fun w => run_agg hu w
    have row : ∀ (hd : isAggD d = true), (match P.info? t with
        | some i => litN i.size fun sz => partL (cs.toList.drop off) sz fun r => K (.agg r.toArray)
        | none => False) → ∃ v, (∀ w, (part t cs off).run P w = .ok v w) ∧ K v := by
      intro hd hrow
      cases hi : P.info? t with
      | none => rw [hi] at hrow; exact hrow.elim
      | some i =>
        rw [hi] at hrow
        have hrow := partL_eq _ _ (litN_eq hrow)
        refine ⟨_, fun w => ?_, hrow⟩
        rw [hd] at hag
        simp only [part, Sem.run_bind, hag, Result.andThen_ok, if_true, run_siz hi, Sem.run_pure]
        congr 2
        apply Array.ext'
        simp [Nat.add_sub_cancel_left]
    have one : ∀ (hd : isAggD d = false), (match cs.toList[off]? with | some v => K v | none => False) → ∃ v, (∀ w, (part t cs off).run P w = .ok v w) ∧ K v := by
      intro hd h1
      cases hc : cs.toList[off]? with
      | none => rw [hc] at h1; exact h1.elim
      | some v =>
        rw [hc] at h1
        rw [hd] at hag
        have hc' : cs[off]? = some v := by simpa using hc
        exact ⟨v, fun w => by simp [part, Sem.run_bind, hag, hc'], h1⟩
    cases d <;> first | exact row rfl h | exact one rfl h

theorem intW_run {op : BinOp} {k : IntKind} {x y : Int} {K : Value → Prop} (h : intW op k x y K) :
    ∃ v, (∀ w, ((match op with
      | .add | .sub | .mul => Op.intArith op k x y
      | .quo | .rem => Op.intDiv op k x y
      | .and | .or | .xor | .andNot => Op.intBits op k x y
      | _ => Op.intCmp op x y) : Sem Value).run P w = .ok v w) ∧ K v := by
  cases op <;> simp only [intW] at h <;>
    first
      | exact h.elim
      | exact ⟨_, fun _ => rfl, h.out⟩
      | exact ⟨_, fun _ => rfl, h⟩
      | (obtain ⟨h0, h1⟩ := h.out; refine ⟨_, fun w => ?_, h1.out⟩; simp [Op.intDiv, h0]; done)
      | (obtain ⟨h0, h1⟩ := h.out; refine ⟨_, fun w => ?_, h1⟩; simp [Op.intDiv, h0]; done)
      | (refine ⟨_, fun w => ?_, h⟩; simp only [Op.intCmp, Sem.run_pure, bne, beq_eq_decide, Bool.not_eq_eq_eq_not]; done)

theorem strW_run {op : BinOp} {x y : ByteArray} {K : Value → Prop} (h : strW op x y K) : ∃ v, (∀ w, (Op.stringOp op x y).run P w = .ok v w) ∧ K v := by
  cases op <;> simp only [strW] at h <;>
    first
      | exact h.elim
      | exact ⟨_, fun _ => rfl, h⟩
      | (obtain ⟨h0, h1⟩ := h.out; refine ⟨_, fun w => ?_, h1⟩; simp only [Op.stringOp]; rw [if_neg (Int.not_lt.2 h0)]; rfl)

theorem vcells_eq (v : Value) : v.cells.toList = vcells v := by cases v <;> rfl
theorem vcells_size (v : Value) : v.cells.size = (vcells v).length := by rw [← vcells_eq]; simp
theorem forceL_eq : ∀ (l : List Value) {k : List Value → Prop}, forceL l k → k l
  | [], _, h => h
  | _ :: l, _, h => forceL_eq l h
def repl (cs : List Value) (o : Nat) (vs : List Value) : List Value := cs.take o ++ vs ++ cs.drop (o + vs.length)
theorem replW_eq : ∀ (cs : List Value) (o : Nat) (vs : List Value) {k : List Value → Prop}, replW cs o vs k → (vs = [] ∨ o + vs.length ≤ cs.length) ∧ k (repl cs o vs)
  | c :: cs, 0, v :: vs, k, h => by
    simp only [replW] at h
    obtain ⟨h1, h2⟩ := replW_eq cs 0 vs h
    refine ⟨.inr ?_, ?_⟩
    · rcases h1 with rfl | h1
      · simp
      · simp at h1 ⊢; omega
    · simp only [repl, List.take_zero, List.nil_append, List.length_cons] at h2 ⊢
      rw [show 0 + (vs.length + 1) = (0 + vs.length) + 1 by omega, List.drop_succ_cons]
      exact h2
  | c :: cs, o + 1, v :: vs, k, h => by
    simp only [replW] at h
    obtain ⟨h1, h2⟩ := replW_eq cs o (v :: vs) h
    refine ⟨.inr ?_, ?_⟩
    · rcases h1 with h1 | h1
      · cases h1
      · simp at h1 ⊢; omega
    · simp only [repl, List.length_cons, List.take_succ_cons, List.cons_append] at h2 ⊢
      rw [show o + 1 + (vs.length + 1) = (o + (vs.length + 1)) + 1 by omega, List.drop_succ_cons]
      exact h2
  | [], o, [], k, h => ⟨.inl rfl, by simpa [repl] using forceL_eq _ h⟩
  | c :: cs, o, [], k, h => by
    have : forceL (c :: cs) k := by cases o <;> exact h
    exact ⟨.inl rfl, by simpa [repl] using forceL_eq _ this⟩
  | [], _, _ :: _, _, h => by simp [replW] at h
theorem fold_set : ∀ (vs : List Value) (o j : Nat) (cs : Array Value), o + j + vs.length ≤ cs.size →
    ((vs.zipIdx j).foldl (fun cs (x : Value × Nat) => cs.setIfInBounds (o + x.2) x.1) cs).toList = repl cs.toList (o + j) vs
  | [], o, j, cs, _ => by simp [repl]
  | v :: vs, o, j, cs, hb => by
    simp only [List.length_cons] at hb
    simp only [List.zipIdx_cons, List.foldl_cons]
    rw [fold_set vs o (j + 1) _ (by simp; omega)]
    simp only [repl, Array.toList_setIfInBounds, List.length_cons]
    have hlen : o + j < cs.toList.length := by simp; omega
    rw [show o + (j + 1) = (o + j) + 1 by omega, List.take_add_one, List.drop_set_of_lt (by omega)]
    rw [List.take_set, List.getElem?_set_self (by simpa using hlen)]
    have ht : (List.take (o + j) cs.toList).set (o + j) v = List.take (o + j) cs.toList := List.set_eq_of_length_le (by simp; omega)
    rw [ht]
    simp [show o + j + 1 + vs.length = o + j + (vs.length + 1) by omega]
theorem fillW_eq {pl : Nat → Option (Nat × Nat)} : ∀ (ps : List (Nat × Value)) (cs : List Value) {k : List Value → Prop}, fillW pl cs ps k →
    ∃ cs', Instr.fill pl cs.toArray ps = some cs' ∧ k cs'.toList
  | [], cs, k, h => ⟨cs.toArray, rfl, by simpa using forceL_eq _ h⟩
  | (i, v) :: ps, cs, k, h => by
    simp only [fillW] at h
    cases hp : pl i with
    | none => rw [hp] at h; exact h.elim
    | some x =>
      obtain ⟨o, m⟩ := x
      rw [hp] at h
      simp only at h
      cases hb : Nat.beq (vcells v).length m with
      | false => rw [hb] at h; exact h.elim
      | true =>
        rw [hb] at h
        have hm : (vcells v).length = m := Nat.eq_of_beq_eq_true hb
        simp only at h
        cases hle : Nat.ble (o + m) cs.length with
        | false => rw [hle] at h; exact h.elim
        | true =>
          rw [hle] at h
          have hle' : o + m ≤ cs.length := Nat.le_of_ble_eq_true hle
          obtain ⟨_, h2⟩ := replW_eq _ _ _ h
          obtain ⟨cs', hf, hk⟩ := fillW_eq ps _ h2
          refine ⟨cs', ?_, hk⟩
          have hsz : v.cells.size = m := by rw [vcells_size, hm]
          have key : v.cells.zipIdx.foldl (fun cs (x : Value × Nat) => cs.setIfInBounds (o + x.2) x.1) cs.toArray = (repl cs o (vcells v)).toArray := by
            apply Array.ext'
            rw [← Array.foldl_toList, Array.toList_zipIdx, vcells_eq, fold_set _ _ _ _ (by simp; omega)]
            simp
          simp only [Instr.fill, hp]
          rw [if_neg (by simp [hsz]; omega)]
          rw [← hf, ← key]
theorem placesW_eq : ∀ (fs : List Field) {k : List (Nat × Nat) → Prop}, placesW P fs k →
    ∃ pl, (∀ w, (fs.mapM fun f => do pure (f.offset, ← sizeOf f.type) : Sem (List (Nat × Nat))).run P w = .ok pl w) ∧ k pl
  | [], k, h => ⟨[], fun _ => rfl, h⟩
  | f :: fs, k, h => by
    simp only [placesW] at h
    cases hi : P.info? f.type with
    | none => rw [hi] at h; exact h.elim
    | some i =>
      rw [hi] at h
      obtain ⟨pl, hr, hk⟩ := placesW_eq fs h
      exact ⟨_, fun w => by simp only [List.mapM_cons, Sem.run_bind, run_siz hi, Result.andThen_ok, Sem.run_pure, hr], hk⟩
theorem buildW_run {t : TypeId} {ps : List (Nat × Value)} {k : List Value → Prop} (h : buildW P t ps k) : ∃ cs : Array Value, (∀ w, (Instr.build t ps.toArray).run P w = .ok (.agg cs) w) ∧ k cs.toList := by
  unfold buildW at h
  cases hi : P.info? t with
  | none => rw [hi] at h; exact h.elim
  | some i =>
    rw [hi] at h
    simp only at h
    cases hz : i.zero with
    | none => rw [hz] at h; exact h.elim
    | some z =>
      rw [hz] at h
      simp only at h
      have hzero : ∀ w, (zeroValue t).run P w = .ok z w := fun w => by simp [zeroValue, run_inf hi, hz]
      have hzc : z.cells = (vcells z).toArray := by apply Array.ext'; rw [vcells_eq]
      cases hu : P.underlying t with
      | none => rw [hu] at h; exact h.elim
      | some d =>
        rw [hu] at h
        cases d with
        | struct fs =>
          obtain ⟨pl, hr, hk⟩ := placesW_eq _ h
          obtain ⟨cs', hf, hk2⟩ := fillW_eq _ _ hk
          refine ⟨cs', fun w => ?_, hk2⟩
          have hm : (fs.mapM fun f => do pure (f.offset, ← sizeOf f.type) : Sem (Array (Nat × Nat))).run P w = .ok pl.toArray w := by
            rw [Array.mapM_eq_mapM_toList, Sem.run_map, hr]; rfl
          have hf' : Instr.fill (fun x => pl.toArray[x]?) z.cells ps = some cs' := by
            rw [hzc, ← hf]; congr 1; funext x; simp
          simp only [Instr.build, Sem.run_bind, hzero, Result.andThen_ok, run_und hu, hm]
          simp only [hf', Sem.run_pure]
        | array m e =>
          simp only at h
          cases hie : P.info? e with
          | none => rw [hie] at h; exact h.elim
          | some ie =>
            rw [hie] at h
            obtain ⟨cs', hf, hk2⟩ := fillW_eq _ _ h
            refine ⟨cs', fun w => ?_, hk2⟩
            rw [← hzc] at hf
            simp only [Instr.build, Sem.run_bind, hzero, Result.andThen_ok, run_und hu, run_siz hie]
            simp only [hf, Sem.run_pure]
        | _ => exact h.elim
theorem repeatL_length (z : List Value) : ∀ n, (repeatL z n).length = n * z.length
  | 0 => by simp [repeatL]
  | n + 1 => by simp [repeatL, repeatL_length z n, Nat.succ_mul, Nat.add_comm]
theorem repeatL_get (z : List Value) : ∀ n i, i < n * z.length → (repeatL z n)[i]? = z[i % z.length]?
  | 0, i, h => by simp at h
  | n + 1, i, h => by
    simp only [repeatL]
    by_cases hi : i < z.length
    · rw [List.getElem?_append_left hi, Nat.mod_eq_of_lt hi]
    · rw [List.getElem?_append_right (by omega), repeatL_get z n (i - z.length) (by rw [Nat.succ_mul] at h; omega)]
      rw [Nat.mod_eq_sub_mod (a := i) (by omega)]
theorem repeat_eq (z : Array Value) (m : Nat) : ((Array.range (m * z.size)).map (fun i => z[i % z.size]!)) = (repeatL z.toList m).toArray := by
  apply Array.ext'
  apply List.ext_getElem?
  intro i
  by_cases hi : i < m * z.size
  · have hz : 0 < z.size := by
      rcases Nat.eq_zero_or_pos z.size with h | h
      · rw [h] at hi; simp at hi
      · exact h
    have hlt : i % z.size < z.size := Nat.mod_lt _ hz
    have h1 := repeatL_get z.toList m i (by simpa using hi)
    simp only [Array.length_toList] at h1
    rw [show (repeatL z.toList m).toArray.toList = repeatL z.toList m from rfl, h1]
    simp [hi, hlt]
  · rw [List.getElem?_eq_none (by simp; omega), List.getElem?_eq_none (by simp [repeatL_length]; omega)]
theorem bsliceW_run {t : TypeId} {len : Nat} {ps : List (Nat × Value)} {k : TypeId → List Value → Prop} (h : bsliceW P t len ps k) :
    ∃ e cs, (Instr.buildSlice t len ps.toArray).run P w = .ok (.slice (some ⟨w.heap.size, 0, none⟩) len len) { w with heap := w.heap.push (.cells (List.toArray cs) e) } ∧ k e cs := by
  unfold bsliceW at h
  cases hu : P.underlying t with
  | none => rw [hu] at h; exact h.elim
  | some d =>
    rw [hu] at h
    cases d with
    | slice e =>
      simp only at h
      cases hi : P.info? e with
      | none => rw [hi] at h; exact h.elim
      | some i =>
        rw [hi] at h
        simp only at h
        cases hz : i.zero with
        | none => rw [hz] at h; exact h.elim
        | some z =>
          rw [hz] at h
          simp only at h
          cases hs : Nat.beq (vcells z).length i.size with
          | false => rw [hs] at h; exact h.elim
          | true =>
            rw [hs] at h
            simp only at h
            cases hl : Nat.ble (len * i.size) 16777216 with
            | false => rw [hl] at h; exact h.elim
            | true =>
              rw [hl] at h
              have hs' : (vcells z).length = i.size := Nat.eq_of_beq_eq_true hs
              have hl' : len * i.size ≤ 16777216 := Nat.le_of_ble_eq_true hl
              have hzero : (zeroValue e).run P w = .ok z w := by simp [zeroValue, run_inf hi, hz]
              have hzs : z.cells.size = i.size := by rw [vcells_size, hs']
              obtain ⟨cs', hf, hk⟩ := fillW_eq _ _ h
              have hf' : Instr.fill (fun j => some (j * i.size, i.size)) ((Array.range (len * i.size)).map (fun j => z.cells[j % z.cells.size]!)) ps = some cs' := by
                have h2 := repeat_eq z.cells len
                rw [hzs, vcells_eq] at h2
                rw [hzs, h2]; exact hf
              refine ⟨e, cs'.toList, ?_, hk⟩
              simp only [Instr.buildSlice, Sem.run_bind, run_und hu, Result.andThen_ok, run_siz hi]
              rw [if_neg (by omega)]
              by_cases h0 : len * i.size = 0
              · have he : ∀ zz : Array Value, ((Array.range (len * i.size)).map (fun j => zz[j % zz.size]!)) = #[] := by
                  intro zz; rw [h0]; simp
                rw [he] at hf'
                rw [if_pos h0]
                simp only [Sem.run_pure, Result.andThen_ok, Sem.run_bind]
                rw [he]
                simp only [hf']
                simp [newRow]
              · rw [if_neg h0]
                simp only [Sem.run_bind, hzero, Result.andThen_ok, Sem.run_pure]
                simp only [hf']
                simp [newRow]
    | _ => exact h.elim
theorem zeroW_run {e : TypeId} {k : List Value → Prop} (h : zeroW P e k) : ∃ z, (zeroValue e).run P w = .ok z w ∧ k (vcells z) := by
  unfold zeroW at h
  cases hi : P.info? e with
  | none => rw [hi] at h; exact h.elim
  | some i =>
    rw [hi] at h
    simp only at h
    cases hz : i.zero with
    | none => rw [hz] at h; exact h.elim
    | some z =>
      rw [hz] at h
      exact ⟨z, by simp [zeroValue, run_inf hi, hz], forceL_eq _ h⟩
end
end Go.Ev
