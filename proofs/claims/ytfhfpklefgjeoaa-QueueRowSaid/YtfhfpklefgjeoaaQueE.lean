/- A row of little room: the document's answer. Conditions: none. -/
import Derived.Test.YtfhfpklefgjeoaaQueC
namespace Go.Ev
open Go Go.Proofs
set_option maxRecDepth 10000
set_option maxHeartbeats 4000000

/-- What is wrong with a queue. -/
def wrongL (l : List Num) : Int := if l.length < 2 then 1 else if (gN l 0).1 < 0 ∨ (l.length : Int) - 1 ≤ (gN l 0).1 ∨ (gN l 0).2 < 0 ∨ (l.length : Int) - 1 < (gN l 0).2 then 2 else 0
theorem wrongL_ok {l : List Num} (h : wrongL l = 0) : 2 ≤ l.length ∧ 0 ≤ (gN l 0).1 ∧ (gN l 0).1 < l.length - 1 ∧ 0 ≤ (gN l 0).2 ∧ (gN l 0).2 ≤ l.length - 1 := by
  unfold wrongL at h
  split at h
  · cases h
  · split at h
    · cases h
    · omega
theorem open_plain {l : List Num} {α : Type} (f : Int × Int × Int → MP α) (h0 : ∀ a b c, c ≠ 0 → f (a, b, c) = f (0, 0, c)) :
    ((openM l.length).bind f).run rdP wrP l = (f (if wrongL l = 0 then ((gN l 0).1, (gN l 0).2, 0) else (0, 0, wrongL l))).run rdP wrP l := by
  rw [MP.run_bind]
  unfold openM wrongL
  by_cases h1 : l.length < 2
  · rw [if_pos (show (l.length : Int) < 2 by omega), if_pos h1]
    simp [MP.run]
  · rw [if_neg (show ¬ (l.length : Int) < 2 by omega), if_neg h1]
    simp only [MP.run]
    rw [rdP_in (by omega) (by omega)]
    simp only [if_true]
    by_cases h2 : (gN l 0).1 < 0 ∨ (l.length : Int) - 1 ≤ (gN l 0).1 ∨ (gN l 0).2 < 0 ∨ (l.length : Int) - 1 < (gN l 0).2
    · simp only [if_pos h2, MP.run]
      simp
    · simp only [if_neg h2, MP.run]
      simp
theorem modR (a n : Int) : (a + n) % n = a % n := Int.add_emod_right a n
theorem modS {a n : Int} (h0 : 0 ≤ a) (h1 : a < n) : a % n = a := Int.emod_eq_of_lt h0 h1
/-- What is put, on a list. -/
def putL (l : List Num) (v : Num) (first : Bool) : Int × List Num :=
  if rightN v then if wrongL l = 0 then (if (gN l 0).2 = l.length - 1 then (31, l) else
    let f := if first then ((gN l 0).1 + (l.length - 1) - 1) % (l.length - 1) else (gN l 0).1
    let p := if first then f else ((gN l 0).1 + (gN l 0).2) % (l.length - 1)
    (0, (l.set (p + 1).toNat v).set 0 (f, (gN l 0).2 + 1))) else (wrongL l, l) else (1, l)
theorem put_plain {l : List Num} (hl : l.length ≤ 4096) (v : Num) (first : Bool) : (putM l.length v first).run rdP wrP l = putL l v first := by
  unfold putM putL
  by_cases hv : rightN v = true
  · rw [if_pos hv, if_pos hv, open_plain _ (fun a b c hc => by simp only [if_neg hc])]
    by_cases hw : wrongL l = 0
    · have ok := wrongL_ok hw
      rw [if_pos hw, if_pos hw]
      simp only [if_true]
      by_cases hc : (gN l 0).2 = l.length - 1
      · rw [if_pos hc, if_pos hc]; rfl
      · rw [if_neg hc, if_neg hc]
        have n0 : (l.length : Int) - 1 ≠ 0 := by omega
        have np : 0 < (l.length : Int) - 1 := by omega
        simp only [MP.run]
        cases first with
        | true =>
          have e1 : (gN l 0).1 + -1 + ((l.length : Int) - 1) = (gN l 0).1 + (l.length - 1) - 1 := by omega
          have e2 : (gN l 0).1 - 1 + ((l.length : Int) - 1) = (gN l 0).1 + (l.length - 1) - 1 := by omega
          have b0 := Int.emod_nonneg ((gN l 0).1 + (l.length - 1) - 1) n0
          have b1 := Int.emod_lt_of_pos ((gN l 0).1 + (l.length - 1) - 1) np
          simp only [if_true, e1, e2]
          generalize ((gN l 0).1 + (l.length - 1) - 1) % ((l.length : Int) - 1) = f at b0 b1
          rw [wrP_in hv (by omega) (by omega)]
          simp only [if_true, MP.run]
          rw [wrP_in (rightN_iff.2 ⟨by simp only; omega, by simp only; omega⟩) (by omega) (by rw [List.length_set]; omega)]
          rw [Int.add_comm 1 f]
          rfl
        | false =>
          simp only [Bool.false_eq_true, if_false]
          rw [modR, modR, modS ok.2.1 ok.2.2.1]
          have b0 := Int.emod_nonneg ((gN l 0).1 + (gN l 0).2) n0
          have b1 := Int.emod_lt_of_pos ((gN l 0).1 + (gN l 0).2) np
          generalize ((gN l 0).1 + (gN l 0).2) % ((l.length : Int) - 1) = p at b0 b1
          rw [wrP_in hv (by omega) (by omega)]
          simp only [if_true, MP.run]
          rw [wrP_in (rightN_iff.2 ⟨by simp only; omega, by simp only; omega⟩) (by omega) (by rw [List.length_set]; omega)]
          rw [Int.add_comm 1 p]
          rfl
    · rw [if_neg hw, if_neg hw]
      simp only [if_neg hw]
      rfl
  · rw [if_neg hv, if_neg hv]; rfl
/-- One, on a list. -/
def atL (l : List Num) (i : Int) : Num × Int := if wrongL l = 0 then (if i < 0 ∨ (gN l 0).2 ≤ i then ((0, 0), 32) else (gN l (1 + ((gN l 0).1 + i) % (l.length - 1)), 0)) else ((0, 0), wrongL l)
theorem at_plain {l : List Num} (i : Int) : (atM l.length i).run rdP wrP l = (atL l i, l) := by
  unfold atM atL
  rw [open_plain _ (fun a b c hc => by simp only [if_neg hc])]
  by_cases hw : wrongL l = 0
  · have ok := wrongL_ok hw
    rw [if_pos hw, if_pos hw]
    simp only [if_true]
    by_cases hc : i < 0 ∨ (gN l 0).2 ≤ i
    · rw [if_pos hc, if_pos hc]; rfl
    · rw [if_neg hc, if_neg hc]
      have n0 : (l.length : Int) - 1 ≠ 0 := by omega
      have np : 0 < (l.length : Int) - 1 := by omega
      simp only [MP.run]
      rw [modR]
      have b0 := Int.emod_nonneg ((gN l 0).1 + i) n0
      have b1 := Int.emod_lt_of_pos ((gN l 0).1 + i) np
      rw [rdP_in (by omega) (by omega)]
  · rw [if_neg hw, if_neg hw]
    simp only [if_neg hw]
    rfl
theorem len_plain {l : List Num} : (lenM l.length).run rdP wrP l = (if wrongL l = 0 then ((gN l 0).2, 0) else (0, wrongL l), l) := by
  unfold lenM
  rw [open_plain _ (fun a b c hc => by simp only [if_neg hc])]
  by_cases hw : wrongL l = 0
  · rw [if_pos hw, if_pos hw]; rfl
  · rw [if_neg hw, if_neg hw]
    simp only [if_neg hw]
    rfl
/-- What is taken, on a list. -/
def takeL (l : List Num) (first : Bool) : (Num × Int) × List Num :=
  let r := atL l (if wrongL l = 0 ∧ first = false then (gN l 0).2 - 1 else 0)
  if r.2 = 0 then ((r.1, 0), l.set 0 (if first then ((gN l 0).1 + 1) % (l.length - 1) else (gN l 0).1, (gN l 0).2 - 1)) else (((0, 0), r.2), l)
theorem take_plain {l : List Num} (hl : l.length ≤ 4096) (first : Bool) : (takeM l.length first).run rdP wrP l = takeL l first := by
  unfold takeM takeL atL
  rw [open_plain _ (fun a b c hc => by simp only [if_neg hc])]
  by_cases hw : wrongL l = 0
  · have ok := wrongL_ok hw
    rw [if_pos hw, if_pos hw]
    simp only [if_true]
    have n0 : (l.length : Int) - 1 ≠ 0 := by omega
    have np : 0 < (l.length : Int) - 1 := by omega
    by_cases hc : (gN l 0).2 = 0
    · rw [if_pos hc]
      cases first
      · simp only [hw, and_self, if_true]
        rw [if_pos (show (gN l 0).2 - 1 < 0 ∨ (gN l 0).2 ≤ (gN l 0).2 - 1 by omega)]
        rfl
      · simp only [Bool.true_eq_false, and_false, if_false]
        rw [if_pos (show (0 : Int) < 0 ∨ (gN l 0).2 ≤ 0 by omega)]
        rfl
    · rw [if_neg hc]
      simp only [MP.run]
      cases first with
      | true =>
        simp only [if_true, Bool.true_eq_false, and_false, if_false]
        rw [if_neg (show ¬ ((0 : Int) < 0 ∨ (gN l 0).2 ≤ 0) by omega), modR, modR]
        have b0 := Int.emod_nonneg ((gN l 0).1 + 0) n0
        have b1 := Int.emod_lt_of_pos ((gN l 0).1 + 0) np
        have c0 := Int.emod_nonneg ((gN l 0).1 + 1) n0
        have c1 := Int.emod_lt_of_pos ((gN l 0).1 + 1) np
        rw [rdP_in (by omega) (by omega)]
        simp only [if_true, MP.run]
        rw [wrP_in (rightN_iff.2 ⟨by simp only; omega, by simp only; omega⟩) (by omega) (by omega)]
        simp only [if_true, MP.run]
        rfl
      | false =>
        simp only [Bool.false_eq_true, if_false, hw, and_self, if_true]
        rw [if_neg (show ¬ ((gN l 0).2 - 1 < 0 ∨ (gN l 0).2 ≤ (gN l 0).2 - 1) by omega), modR, modR, modS ok.2.1 ok.2.2.1]
        have b0 := Int.emod_nonneg ((gN l 0).1 + ((gN l 0).2 - 1)) n0
        have b1 := Int.emod_lt_of_pos ((gN l 0).1 + ((gN l 0).2 - 1)) np
        rw [rdP_in (by omega) (by omega)]
        simp only [if_true, MP.run]
        rw [wrP_in (rightN_iff.2 ⟨by simp only; omega, by simp only; omega⟩) (by omega) (by omega)]
        simp only [if_true, MP.run]
        rfl
  · rw [if_neg hw, if_neg hw]
    simp only [if_neg hw]
    rfl
end Go.Ev
