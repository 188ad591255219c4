/- A row of little room: what it tells is what a list tells. Conditions: none. -/
import Derived.Test.YtfhfpklefgjeoaaQueE
namespace Go.Ev
open Go Go.Proofs
set_option maxRecDepth 10000
set_option maxHeartbeats 1000000

/-- What a row tells, by a list. -/
def stepR (n : Int) (r : List Num) (k : Int) (v : Num) (i : Int) : List Num × Num × Int :=
  if k.tmod 6 < 2 ∧ rightN v = false then (r, (0, 0), 1)
  else if k.tmod 6 < 2 ∧ (r.length : Int) = n then (r, (0, 0), 31)
  else if k.tmod 6 = 0 then (r ++ [v], (0, 0), 0)
  else if k.tmod 6 = 1 then (v :: r, (0, 0), 0)
  else if k.tmod 6 = 4 then (r, (r.length, 0), 0)
  else if (k.tmod 6 = 5 ∧ (i < 0 ∨ (r.length : Int) ≤ i)) ∨ (k.tmod 6 < 4 ∧ r.length = 0) then (r, (0, 0), 32)
  else if k.tmod 6 = 5 then (r, gN r i, 0)
  else if k.tmod 6 = 2 then (r.drop 1, gN r 0, 0)
  else (r.take (r.length - 1), gN r (r.length - 1), 0)

/-- The memory l has the row r of room n. -/
structure RowOf (n : Int) (l r : List Num) : Prop where
  len : (l.length : Int) = n + 1
  pos : 0 < n
  f0 : 0 ≤ (gN l 0).1
  f1 : (gN l 0).1 < n
  cnt : (gN l 0).2 = r.length
  le : (r.length : Int) ≤ n
  at_ : ∀ j : Nat, j < r.length → gN r j = gN l (1 + ((gN l 0).1 + j) % n)

theorem modW {a n : Int} (h0 : 0 ≤ a) (h1 : a < 2 * n) : a % n = if a < n then a else a - n := by
  split
  · exact Int.emod_eq_of_lt h0 (by omega)
  · rw [← Int.emod_eq_of_lt (a := a - n) (b := n) (by omega) (by omega), Int.sub_emod, Int.emod_self, Int.sub_zero, Int.emod_emod]
theorem gN_set {l : List Num} {x : Num} {i j : Int} (hi : 0 ≤ i) (hj : 0 ≤ j) (hl : i < l.length) : gN (l.set i.toNat x) j = if i = j then x else gN l j := by
  unfold gN
  rw [List.getD_eq_getElem?_getD, List.getD_eq_getElem?_getD, List.getElem?_set]
  by_cases h : i = j
  · subst h
    rw [if_pos rfl, if_pos rfl, if_pos (by omega)]; rfl
  · rw [if_neg h, if_neg (by omega)]
theorem gN_set0 {l : List Num} {x : Num} {j : Int} (hj : 0 ≤ j) (hl : 0 < l.length) : gN (l.set 0 x) j = if 0 = j then x else gN l j := gN_set (i := 0) (by omega) hj (by omega)
theorem gN_drop {l : List Num} {j : Nat} : gN (l.drop 1) j = gN l (j + 1) := by
  unfold gN
  rw [List.getD_eq_getElem?_getD, List.getD_eq_getElem?_getD, List.getElem?_drop]
  congr 2
  omega
theorem gN_take {l : List Num} {j m : Nat} (h : j < m) : gN (l.take m) j = gN l j := by
  unfold gN
  rw [List.getD_eq_getElem?_getD, List.getD_eq_getElem?_getD, List.getElem?_take, if_pos (by omega)]
theorem gN_cons {l : List Num} {v : Num} {j : Nat} : gN (v :: l) (j + 1 : Nat) = gN l j := by
  unfold gN
  rw [show ((j + 1 : Nat) : Int).toNat = j + 1 by omega, show ((j : Nat) : Int).toNat = j by omega]
  rfl
theorem gN_cons0 {l : List Num} {v : Num} : gN (v :: l) (0 : Nat) = v := rfl
theorem gN_app {l : List Num} {v : Num} {j : Nat} (h : j < l.length) : gN (l ++ [v]) j = gN l j := by
  unfold gN
  rw [List.getD_eq_getElem?_getD, List.getD_eq_getElem?_getD, List.getElem?_append_left (by omega)]
theorem gN_app1 {l : List Num} {v : Num} : gN (l ++ [v]) l.length = v := by
  unfold gN
  rw [List.getD_eq_getElem?_getD, show ((l.length : Nat) : Int).toNat = l.length by omega]
  simp

theorem RowOf.wrong {n : Int} {l r : List Num} (h : RowOf n l r) : wrongL l = 0 := by
  have := h.len; have := h.pos; have := h.f0; have := h.f1; have := h.cnt; have := h.le
  unfold wrongL
  rw [if_neg (by omega), if_neg (by omega)]
theorem RowOf.back {n : Int} {l r : List Num} (h : RowOf n l r) (v : Num) (hn : (r.length : Int) < n) (hv : rightN v = true) : ∃ l', putL l v false = (0, l') ∧ RowOf n l' (r ++ [v]) := by
  have hw := h.wrong
  obtain ⟨len, pos, f0, f1, cnt, le, hat⟩ := h
  generalize hf : (gN l 0).1 = f at *
  unfold putL
  rw [if_pos hv, if_pos hw, if_neg (by omega)]
  simp only [Bool.false_eq_true, if_false, hf, cnt]
  have el : (l.length : Int) - 1 = n := by omega
  rw [el]
  generalize hp : (f + (r.length : Int)) % n = p
  rw [modW (by omega) (by omega)] at hp
  have hp2 : 0 ≤ p ∧ p < n := by split at hp <;> omega
  have e0 : gN ((l.set (p + 1).toNat v).set 0 (f, (r.length : Int) + 1)) 0 = (f, (r.length : Int) + 1) := by rw [gN_set0 (by omega) (by simp; omega), if_pos rfl]
  refine ⟨_, rfl, ?_⟩
  refine ⟨by simp [len], pos, by rw [e0]; exact f0, by rw [e0]; exact f1, by rw [e0]; simp, by simp; omega, fun j hj => ?_⟩
  rw [e0]
  simp only [List.length_append, List.length_cons, List.length_nil] at hj
  show gN (r ++ [v]) j = gN _ (1 + (f + j) % n)
  have hq := modW (a := f + j) (n := n) (by omega) (by omega)
  generalize (f + (j : Int)) % n = q at hq
  have hq2 : 0 ≤ q ∧ q < n := by split at hq <;> omega
  rw [gN_set0 (by omega) (by simp; omega), if_neg (by omega), gN_set (by omega) (by omega) (by omega)]
  by_cases hjl : j = r.length
  · subst hjl
    rw [if_pos (by split at hp <;> split at hq <;> omega), gN_app1]
  · rw [if_neg (by split at hp <;> split at hq <;> omega), gN_app (by omega), hat j (by omega), modW (by omega) (by omega), ← hq]
theorem RowOf.fore {n : Int} {l r : List Num} (h : RowOf n l r) (v : Num) (hn : (r.length : Int) < n) (hv : rightN v = true) : ∃ l', putL l v true = (0, l') ∧ RowOf n l' (v :: r) := by
  have hw := h.wrong
  obtain ⟨len, pos, f0, f1, cnt, le, hat⟩ := h
  generalize hf : (gN l 0).1 = f at *
  unfold putL
  rw [if_pos hv, if_pos hw, if_neg (by omega)]
  simp only [if_true, hf, cnt]
  have el : (l.length : Int) - 1 = n := by omega
  rw [el]
  generalize hp : (f + n - 1) % n = p
  rw [modW (by omega) (by omega)] at hp
  have hp2 : 0 ≤ p ∧ p < n := by split at hp <;> omega
  have e0 : gN ((l.set (p + 1).toNat v).set 0 (p, (r.length : Int) + 1)) 0 = (p, (r.length : Int) + 1) := by rw [gN_set0 (by omega) (by simp; omega), if_pos rfl]
  refine ⟨_, rfl, ?_⟩
  refine ⟨by simp [len], pos, by rw [e0]; exact hp2.1, by rw [e0]; exact hp2.2, by rw [e0]; simp, by simp; omega, fun j hj => ?_⟩
  rw [e0]
  simp only [List.length_cons] at hj
  show gN (v :: r) j = gN _ (1 + (p + j) % n)
  have hq := modW (a := p + j) (n := n) (by omega) (by omega)
  generalize (p + (j : Int)) % n = q at hq
  have hq2 : 0 ≤ q ∧ q < n := by split at hq <;> omega
  rw [gN_set0 (by omega) (by simp; omega), if_neg (by omega), gN_set (by omega) (by omega) (by omega)]
  cases j with
  | zero => rw [if_pos (by split at hq <;> omega), gN_cons0]
  | succ j =>
    rw [if_neg (by split at hp <;> split at hq <;> omega), gN_cons, hat j (by omega), modW (by omega) (by omega)]
    congr 2
    split at hp <;> split at hq <;> split <;> omega
theorem RowOf.full {n : Int} {l r : List Num} (h : RowOf n l r) (v : Num) (b : Bool) (hn : (r.length : Int) = n) (hv : rightN v = true) : putL l v b = (31, l) := by
  have hw := h.wrong
  have := h.len; have := h.cnt
  unfold putL
  rw [if_pos hv, if_pos hw, if_pos (by omega)]
theorem RowOf.atL {n : Int} {l r : List Num} (h : RowOf n l r) {i : Int} (h0 : 0 ≤ i) (h1 : i < r.length) : atL l i = (gN r i, 0) := by
  have hw := h.wrong
  have := h.len; have := h.cnt
  have ha := h.at_ i.toNat (by omega)
  rw [show ((i.toNat : Nat) : Int) = i by omega] at ha
  unfold Ev.atL
  rw [if_pos hw, if_neg (by omega), ha, show (l.length : Int) - 1 = n by omega]
theorem RowOf.atL_no {n : Int} {l r : List Num} (h : RowOf n l r) {i : Int} (h1 : i < 0 ∨ (r.length : Int) ≤ i) : Ev.atL l i = ((0, 0), 32) := by
  have hw := h.wrong
  have := h.cnt
  unfold Ev.atL
  rw [if_pos hw, if_pos (by omega)]
theorem RowOf.shift {n : Int} {l r : List Num} (h : RowOf n l r) (hr : 0 < r.length) : ∃ l', takeL l true = ((gN r 0, 0), l') ∧ RowOf n l' (r.drop 1) := by
  have ha := h.atL (i := 0) (by omega) (by omega)
  obtain ⟨len, pos, f0, f1, cnt, le, hat⟩ := h
  generalize hf : (gN l 0).1 = f at *
  unfold takeL
  simp only [Bool.true_eq_false, and_false, if_false, ha, if_true, hf, cnt]
  have el : (l.length : Int) - 1 = n := by omega
  rw [el]
  generalize hp : (f + 1) % n = p
  rw [modW (by omega) (by omega)] at hp
  have hp2 : 0 ≤ p ∧ p < n := by split at hp <;> omega
  have e0 : gN (l.set 0 (p, (r.length : Int) - 1)) 0 = (p, (r.length : Int) - 1) := by rw [gN_set0 (by omega) (by omega), if_pos rfl]
  refine ⟨_, rfl, ?_⟩
  refine ⟨by simp [len], pos, by rw [e0]; exact hp2.1, by rw [e0]; exact hp2.2, by rw [e0]; simp; omega, by simp; omega, fun j hj => ?_⟩
  rw [e0]
  simp only [List.length_drop] at hj
  show gN (r.drop 1) j = gN _ (1 + (p + j) % n)
  have hq := modW (a := p + j) (n := n) (by omega) (by omega)
  generalize (p + (j : Int)) % n = q at hq
  have hq2 : 0 ≤ q ∧ q < n := by split at hq <;> omega
  rw [gN_set0 (by omega) (by omega), if_neg (by omega), gN_drop]
  have := hat (j + 1) (by omega)
  rw [show ((j + 1 : Nat) : Int) = (j : Int) + 1 by omega] at this
  rw [this, modW (by omega) (by omega)]
  congr 2
  split at hp <;> split at hq <;> split <;> omega
theorem RowOf.pop {n : Int} {l r : List Num} (h : RowOf n l r) (hr : 0 < r.length) : ∃ l', takeL l false = ((gN r (r.length - 1), 0), l') ∧ RowOf n l' (r.take (r.length - 1)) := by
  have ha := h.atL (i := r.length - 1) (by omega) (by omega)
  have hw := h.wrong
  obtain ⟨len, pos, f0, f1, cnt, le, hat⟩ := h
  generalize hf : (gN l 0).1 = f at *
  unfold takeL
  simp only [hw, true_and, if_true, cnt, ha, hf, Bool.false_eq_true, if_false]
  have e0 : gN (l.set 0 (f, (r.length : Int) - 1)) 0 = (f, (r.length : Int) - 1) := by rw [gN_set0 (by omega) (by omega), if_pos rfl]
  refine ⟨_, rfl, ?_⟩
  refine ⟨by simp [len], pos, by rw [e0]; exact f0, by rw [e0]; exact f1, by rw [e0]; simp; omega, by simp; omega, fun j hj => ?_⟩
  rw [e0]
  simp only [List.length_take] at hj
  show gN (r.take _) j = gN _ (1 + (f + j) % n)
  have hq := modW (a := f + j) (n := n) (by omega) (by omega)
  have hq2 : 0 ≤ (f + (j : Int)) % n ∧ (f + (j : Int)) % n < n := by rw [hq]; split <;> omega
  rw [gN_set0 (by omega) (by omega), if_neg (by omega), gN_take (by omega), hat j (by omega)]
theorem RowOf.none {n : Int} {l r : List Num} (h : RowOf n l r) (b : Bool) (hr : r.length = 0) : takeL l b = (((0, 0), 32), l) := by
  have hc := h.cnt
  have ha := fun i => h.atL_no (i := i)
  unfold takeL
  rw [ha _ (by split <;> omega)]
  simp only
  rw [if_neg (by decide)]

theorem tmod6 {k : Int} (h : 0 ≤ k) : 0 ≤ k.tmod 6 ∧ k.tmod 6 < 6 := by
  rw [Int.tmod_eq_emod_of_nonneg h]; omega

/-- A row tells what the list tells. -/
theorem once_row {n : Int} {l r : List Num} (h : RowOf n l r) (hl : l.length ≤ 4096) {k : Int} (hk : 0 ≤ k) (v : Num) (i : Int) :
    ∃ l', (onceQ l.length k v i).run rdP wrP l = (((stepR n r k v i).2.1, (stepR n r k v i).2.2), l') ∧ RowOf n l' (stepR n r k v i).1 := by
  have hm := tmod6 hk
  have hle := h.le
  have hw := h.wrong
  have hcnt := h.cnt
  unfold onceQ stepR
  generalize k.tmod 6 = m at *
  have put : ∀ b l', putL l v b = l' → ((putM l.length v b).bind fun e => MP.ret (((0, 0) : Num), e)).run rdP wrP l = (((0, 0), l'.1), l'.2) := by
    intro b l' e
    rw [MP.run_bind, put_plain hl, e]; rfl
  by_cases h0 : m = 0 ∨ m = 1
  · have hp : (if m = 0 then (putM l.length v false).bind fun e => MP.ret ((0, 0), e) else if m = 1 then (putM l.length v true).bind fun e => MP.ret ((0, 0), e) else if m = 2 then takeM l.length true
        else if m = 3 then takeM l.length false else if m = 4 then (lenM l.length).bind fun r => MP.ret ((r.1, 0), r.2) else atM l.length i) = (putM l.length v (decide (m = 1))).bind fun e => MP.ret ((0, 0), e) := by
      rcases h0 with rfl | rfl <;> simp
    rw [hp]
    by_cases hv : rightN v = true
    · rw [if_neg (by simp [hv])]
      by_cases hf : (r.length : Int) = n
      · rw [if_pos ⟨by omega, hf⟩]
        exact ⟨l, put _ _ (h.full v _ hf hv), h⟩
      · rw [if_neg (fun hh => hf hh.2)]
        rcases h0 with rfl | rfl
        · obtain ⟨l', e, hh⟩ := h.back v (by omega) hv
          exact ⟨l', put _ _ e, hh⟩
        · obtain ⟨l', e, hh⟩ := h.fore v (by omega) hv
          exact ⟨l', put _ _ e, hh⟩
    · have hv : rightN v = false := by simpa using hv
      rw [if_pos ⟨by omega, hv⟩]
      exact ⟨l, put _ (1, l) (by unfold putL; rw [if_neg (by simp [hv])]), h⟩
  have n0 : ¬ m = 0 := fun e => h0 (.inl e)
  have n1 : ¬ m = 1 := fun e => h0 (.inr e)
  have n2 : ¬ m < 2 := by omega
  simp only [n0, n1, n2, false_and, if_false]
  by_cases h2 : m = 2
  · subst h2
    rw [if_pos rfl, take_plain hl, if_neg (by decide)]
    by_cases hr : r.length = 0
    · rw [if_pos (.inr ⟨by decide, hr⟩), h.none true hr]
      exact ⟨l, rfl, h⟩
    · rw [if_neg (by simp [hr]), if_neg (by decide), if_pos rfl]
      obtain ⟨l', e, hh⟩ := h.shift (by omega)
      exact ⟨l', e, hh⟩
  rw [if_neg h2]
  by_cases h3 : m = 3
  · subst h3
    rw [if_pos rfl, take_plain hl, if_neg (by decide)]
    by_cases hr : r.length = 0
    · rw [if_pos (.inr ⟨by decide, hr⟩), h.none false hr]
      exact ⟨l, rfl, h⟩
    · rw [if_neg (by simp [hr]), if_neg (by decide), if_neg (by decide)]
      obtain ⟨l', e, hh⟩ := h.pop (by omega)
      exact ⟨l', e, hh⟩
  rw [if_neg h3]
  by_cases h4 : m = 4
  · subst h4
    rw [if_pos rfl, if_pos rfl, MP.run_bind, len_plain, if_pos hw, hcnt]
    exact ⟨l, rfl, h⟩
  rw [if_neg h4, if_neg h4, at_plain]
  obtain rfl : m = 5 := by omega
  by_cases hi : i < 0 ∨ (r.length : Int) ≤ i
  · rw [if_pos (.inl ⟨rfl, hi⟩), h.atL_no hi]
    exact ⟨l, rfl, h⟩
  · rw [if_neg (fun hh => hh.elim (fun hh => hi hh.2) (fun hh => absurd hh.1 (by decide))), if_pos rfl, h.atL (by omega) (by omega)]
    exact ⟨l, rfl, h⟩
theorem stepR_len {n : Int} {r : List Num} {k : Int} {v : Num} {i : Int} (h : (r.length : Int) ≤ n) : ((stepR n r k v i).1.length : Int) ≤ n := by
  unfold stepR
  split <;> try exact h
  split <;> try exact h
  split
  · simp; omega
  split
  · simp; omega
  split <;> try exact h
  split <;> try exact h
  split <;> try exact h
  split
  · simp; omega
  · simp; omega
/-- At first it is empty. -/
theorem rowOf0 {n : Int} (h : 0 < n) : RowOf n (List.replicate (n + 1).toNat (0, 0)) [] := by
  have e : gN (List.replicate (n + 1).toNat (0, 0)) 0 = (0, 0) := by
    unfold gN
    rw [List.getD_eq_getElem?_getD, List.getElem?_replicate]
    split <;> rfl
  refine ⟨by simp; omega, h, by rw [e]; simp, by rw [e]; simpa using h, by rw [e]; rfl, by simp; omega, fun j hj => by simp at hj⟩
end Go.Ev
