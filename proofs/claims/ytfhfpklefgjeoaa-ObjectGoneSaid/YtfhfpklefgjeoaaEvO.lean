/- Arguments opened: from the form's own reading to lists. Conditions: none. -/
import Derived.Test.YtfhfpklefgjeoaaEvU
import Derived.ProofKit
import Derived.Carry
namespace Go.Ev
open Go Go.RowKit

section
variable {H : Type} {enc0 : TypeId × Value → H} {P : Program} {w β : World} {base : Nat} {sp : Nat → Bool} {held : Bool}

theorem mapM_some {α γ : Type} {f : α → Option γ} : ∀ {l : List α} {r : List γ}, l.mapM f = some r → r.length = l.length ∧ ∀ (i : Nat) (x : α), l[i]? = some x → ∃ y, f x = some y ∧ r[i]? = some y
  | [], r, h => by
    simp at h; subst h; exact ⟨rfl, fun i x hx => by simp at hx⟩
  | a :: l, r, h => by
    simp only [List.mapM_cons, bind, Option.bind] at h
    cases hf : f a with
    | none => rw [hf] at h; cases h
    | some y =>
      rw [hf] at h
      simp only at h
      cases hl : l.mapM f with
      | none => rw [hl] at h; cases h
      | some ys =>
        rw [hl] at h
        have hr : y :: ys = r := by simpa using h
        subst hr
        obtain ⟨h1, h2⟩ := mapM_some hl
        refine ⟨by simp [h1], fun i x hx => ?_⟩
        cases i with
        | zero => simp at hx; subst hx; exact ⟨y, hf, rfl⟩
        | succ i => simpa using h2 i x (by simpa using hx)

theorem cells_some {a : Addr} {n : Nat} {cs : List Value} (h : w.cells? base a n = some cs) : cs.length = n ∧ ∀ j, j < n → w.cell? (a.add j) = cs[j]? := by
  unfold World.cells? at h
  split at h
  · obtain ⟨h1, h2⟩ := mapM_some h
    refine ⟨by simpa using h1, fun j hj => ?_⟩
    obtain ⟨y, hy, hr⟩ := h2 j j (by simp [hj])
    rw [hy, hr]
  · cases h

theorem cell_spot {a : Addr} {v : Value} (h : w.cell? a = some v) : a.spot = none ∧ a.block < w.heap.size := by
  unfold World.cell? at h
  cases hb : w.heap[a.block]? with
  | none => rw [hb] at h; cases h
  | some o =>
    have hlt : a.block < w.heap.size := (Array.getElem?_eq_some_iff.1 hb).1
    rw [hb] at h
    cases o with
    | cells c e fz =>
      simp only at h
      by_cases hs : a.spot.isSome = true
      · rw [if_pos hs] at h; cases h
      · refine ⟨by simpa using hs, hlt⟩
    | _ => cases h

/-- A slice, opened: its elements' cells, each of which reads. -/
theorem open_cells {fuel : Nat} {t e : TypeId} {sz : Nat} {a : Option Addr} {len cap : Nat} {x : DataW H × List MemPlace} (hu : P.underlying t = some (.slice e)) (hsz : P.cellsOf e = sz) (hz : 0 < sz)
    (h : DataW.trod enc0 P w base sp held fuel t [.slice a len cap] = some x) :
    ∃ l : List (List Value), len = l.length ∧ l.length ≤ cap ∧ cap ≤ maxLen ∧ ∀ i c, l[i]? = some c → c.length = sz ∧ okA a ∧ blk a < w.heap.size ∧ (∀ j, j < sz → w.cell? ⟨blk a, off a + i * sz + j, none⟩ = c[j]?) ∧
      ∃ f y, DataW.trod enc0 P w base sp held f e c = some y := by
  cases fuel with
  | zero => simp [DataW.trod] at h
  | succ fuel =>
    cases a with
    | none =>
      cases len with
      | zero =>
        cases cap with
        | zero => exact ⟨[], rfl, Nat.le_refl _, Nat.zero_le _, fun i c hc => by simp at hc⟩
        | succ c => simp [DataW.trod, hu] at h
      | succ n => simp [DataW.trod, hu] at h
    | some a =>
      simp only [DataW.trod, hu] at h
      split at h
      · rename_i hc
        obtain ⟨_, hlc, hcm⟩ := hc
        cases hm : (List.range len).mapM (fun i => (w.cells? base (a.add (i * P.cellsOf e)) (P.cellsOf e)).bind (DataW.trod enc0 P w base sp held fuel e)) with
        | none => rw [hm] at h; cases h
        | some elems =>
          obtain ⟨h1, h2⟩ := mapM_some hm
          have hel : ∀ i, i < len → ∃ c, w.cells? base (a.add (i * P.cellsOf e)) (P.cellsOf e) = some c ∧ ∃ y, DataW.trod enc0 P w base sp held fuel e c = some y := by
            intro i hi
            obtain ⟨y, hy, _⟩ := h2 i i (by simp [hi])
            cases hcc : w.cells? base (a.add (i * P.cellsOf e)) (P.cellsOf e) with
            | none => rw [hcc] at hy; cases hy
            | some c => rw [hcc] at hy; exact ⟨c, rfl, y, hy⟩
          refine ⟨(List.range len).map fun i => (w.cells? base (a.add (i * P.cellsOf e)) (P.cellsOf e)).getD [], by simp, by simpa using hlc, hcm, fun i c hc => ?_⟩
          have hi : i < len := by
            have := (List.getElem?_eq_some_iff.1 hc).1; simpa using this
          obtain ⟨c', hc', y, hy⟩ := hel i hi
          have hcc : c = c' := by
            rw [List.getElem?_map, List.getElem?_range hi] at hc
            simp [hc'] at hc; exact hc.symm
          subst hcc
          rw [hsz] at hc'
          obtain ⟨hl, hcell⟩ := cells_some hc'
          have h0 := hcell 0 hz
          have hne : ∃ v, c[0]? = some v := by
            cases c with
            | nil => simp at hl; omega
            | cons v r => exact ⟨v, rfl⟩
          obtain ⟨v, hv⟩ := hne
          rw [hv] at h0
          have hsp : a.spot = none ∧ a.block < w.heap.size := by
            have hcs := hel 0 (by omega)
            obtain ⟨c0, hc0, _⟩ := hcs
            rw [hsz] at hc0
            obtain ⟨hl0, hcell0⟩ := cells_some hc0
            have h00 := hcell0 0 hz
            have : ∃ v, c0[0]? = some v := by
              cases c0 with
              | nil => simp at hl0; omega
              | cons v r => exact ⟨v, rfl⟩
            obtain ⟨v0, hv0⟩ := this
            rw [hv0] at h00
            have := cell_spot h00
            simpa [Addr.add] using this
          obtain ⟨b, o, s⟩ := a
          obtain ⟨hs, hlt⟩ := hsp
          simp only at hs hlt
          subst hs
          refine ⟨hl, ⟨b, o, rfl⟩, hlt, fun j hj => ?_, fuel, y, hy⟩
          have := hcell j hj
          rw [Addr.add_none, Addr.add_none] at this
          simpa [blk, off] using this
      · cases h

/-- A slice of an argument, as a list: 'dec' reads an element's cells, 'enc' writes them. -/
theorem open_list {α : Type} {fuel : Nat} {t e : TypeId} {sz : Nat} {a : Option Addr} {len cap : Nat} {x : DataW H × List MemPlace} (dec : List Value → α) (enc : α → List Value) (G : α → Prop) (hu : P.underlying t = some (.slice e)) (hsz : P.cellsOf e = sz) (hz : 0 < sz)
    (h : DataW.trod enc0 P β base sp held fuel t [.slice a len cap] = some x)
    (hd : ∀ f c y, DataW.trod enc0 P β base sp held f e c = some y → c.length = sz → enc (dec c) = c ∧ G (dec c)) :
    ∃ l : List α, len = l.length ∧ l.length ≤ cap ∧ cap ≤ maxLen ∧ (∀ x ∈ l, G x) ∧ ∀ As, Rds β As sz enc a l := by
  obtain ⟨l, h1, h2, h3, h4⟩ := open_cells hu hsz hz h
  refine ⟨l.map dec, by simpa using h1, by simpa using h2, h3, fun x hx => ?_, fun As i x hx => ?_⟩
  · obtain ⟨c, hc, rfl⟩ := List.mem_map.1 hx
    obtain ⟨i, hi⟩ := List.getElem?_of_mem hc
    obtain ⟨hl, _, _, _, f, y, hy⟩ := h4 i c hi
    exact (hd f c y hy hl).2
  · rw [List.getElem?_map] at hx
    cases hc : l[i]? with
    | none => rw [hc] at hx; cases hx
    | some c =>
      rw [hc] at hx
      obtain rfl : dec c = x := by simpa using hx
      obtain ⟨hl, hok, hlt, hcell, f, y, hy⟩ := h4 i c hc
      refine ⟨hok, fun j hj w hw => ?_⟩
      rw [(hd f c y hy hl).1, ← hcell j hj]
      exact hw.old hlt

/-- A struct's cells, field by field. -/
theorem trod_fields {fuel : Nat} {t : TypeId} {fs : Array Field} {cs : List Value} {x : DataW H × List MemPlace} (hu : P.underlying t = some (.struct fs)) (h : DataW.trod enc0 P w base sp held fuel t cs = some x) :
    cs.length = P.cellsOf t ∧ ∃ f, fuel = f + 1 ∧ ∀ (i : Nat) (fd : Field), fs.toList[i]? = some fd → ∃ y, DataW.trod enc0 P w base sp held f fd.type ((cs.drop fd.offset).take (P.cellsOf fd.type)) = some y := by
  cases fuel with
  | zero => simp [DataW.trod] at h
  | succ f =>
    simp only [DataW.trod, hu] at h
    have key : cs.length = P.cellsOf t ∧ ∃ r, fs.toList.mapM (fun f' => DataW.trod enc0 P w base sp held f f'.type ((cs.drop f'.offset).take (P.cellsOf f'.type))) = some r := by
      split at h
      · rename_i hl
        refine ⟨hl, ?_⟩
        cases hm : fs.toList.mapM (fun f' => DataW.trod enc0 P w base sp held f f'.type ((cs.drop f'.offset).take (P.cellsOf f'.type))) with
        | none => rw [hm] at h; cases h
        | some r => exact ⟨r, rfl⟩
      · cases h
    obtain ⟨hl, r, hr⟩ := key
    refine ⟨hl, f, rfl, fun i fd hi => ?_⟩
    obtain ⟨y, hy, _⟩ := (mapM_some hr).2 i fd hi
    exact ⟨y, hy⟩
/-- A whole number's cell. -/
theorem trod_int {fuel : Nat} {t : TypeId} {k : IntKind} {cs : List Value} {x : DataW H × List MemPlace} (hu : P.underlying t = some (.int k)) (h : DataW.trod enc0 P w base sp held fuel t cs = some x) : ∃ n, cs = [.int k n] ∧ (Lit.int k n).wf = true := by
  cases fuel with
  | zero => simp [DataW.trod] at h
  | succ f =>
    match cs with
    | [] => simp [DataW.trod, hu] at h
    | [v] =>
      cases v with
      | int k' n =>
        simp only [DataW.trod, hu] at h
        split at h
        · rename_i hc; obtain ⟨rfl, hw⟩ := hc; exact ⟨n, rfl, hw⟩
        · cases h
      | _ => simp [DataW.trod, hu] at h
    | v :: u :: r => simp [DataW.trod, hu] at h
theorem trod_bool {fuel : Nat} {t : TypeId} {cs : List Value} {x : DataW H × List MemPlace} (hu : P.underlying t = some .bool) (h : DataW.trod enc0 P w base sp held fuel t cs = some x) : ∃ b, cs = [.bool b] := by
  cases fuel with
  | zero => simp [DataW.trod] at h
  | succ f =>
    match cs with
    | [] => simp [DataW.trod, hu] at h
    | [v] => cases v <;> first | exact ⟨_, rfl⟩ | simp [DataW.trod, hu] at h
    | v :: u :: r => simp [DataW.trod, hu] at h
theorem wf_i64 {n : Int} (h : (Lit.int .i64 n).wf = true) : -9223372036854775808 ≤ n ∧ n < 9223372036854775808 := by
  have e1 : (2 : Int) ^ (64 - 1) = 9223372036854775808 := by decide
  simp [Lit.wf, IntKind.min, IntKind.max, IntKind.signed, IntKind.bits] at h
  omega
end
end Go.Ev
