/- Things that come and go: what they tell is what lists tell. Conditions: none. -/
import Derived.Test.YtfhfpklefgjeoaaObjD
namespace Go.Ev
open Go Go.Proofs
set_option maxRecDepth 10000
set_option maxHeartbeats 1000000

theorem gO_set {l : List Num} {x : Num} {i j : Int} (hi : 0 ≤ i) (hj : 0 ≤ j) (hl : i < l.length) : gN (l.set i.toNat x) j = if i = j then x else gN l j := by
  unfold gN
  rw [List.getD_eq_getElem?_getD, List.getD_eq_getElem?_getD, List.getElem?_set]
  by_cases h : i = j
  · subst h
    rw [if_pos rfl, if_pos rfl, if_pos (by omega)]; rfl
  · rw [if_neg h, if_neg (by omega)]
theorem gO_app {l : List Num} {v : Num} {j : Nat} (h : j < l.length) : gN (l ++ [v]) j = gN l j := by
  unfold gN
  rw [List.getD_eq_getElem?_getD, List.getD_eq_getElem?_getD, List.getElem?_append_left (by omega)]
theorem gO_app1 {l : List Num} {v : Num} : gN (l ++ [v]) l.length = v := by
  unfold gN
  rw [List.getD_eq_getElem?_getD, show ((l.length : Nat) : Int).toNat = l.length by omega]
  simp
def gB (l : List Bool) (k : Nat) : Bool := l.getD k false
theorem gB_set {l : List Bool} {x : Bool} {i j : Nat} (hl : i < l.length) : gB (l.set i x) j = if i = j then x else gB l j := by
  unfold gB
  rw [List.getD_eq_getElem?_getD, List.getD_eq_getElem?_getD, List.getElem?_set]
  by_cases h : i = j
  · subst h
    rw [if_pos rfl, if_pos rfl, if_pos hl]; rfl
  · rw [if_neg h, if_neg h]
theorem gB_app {l : List Bool} {v : Bool} {j : Nat} (h : j < l.length) : gB (l ++ [v]) j = gB l j := by
  unfold gB
  rw [List.getD_eq_getElem?_getD, List.getD_eq_getElem?_getD, List.getElem?_append_left (by omega)]
theorem gB_app1 {l : List Bool} {v : Bool} : gB (l ++ [v]) l.length = v := by
  unfold gB
  rw [List.getD_eq_getElem?_getD]
  simp
theorem gB_get {l : List Bool} {k : Nat} (h : k < l.length) : l[k]? = some (gB l k) := by
  unfold gB
  rw [List.getD_eq_getElem?_getD, List.getElem?_eq_getElem h]; rfl
def cntB (l : List Bool) : Int := (l.count true : Nat)

theorem cntL_add (l : List Num) : ∀ (k : Nat) (i n : Int), cntL l k i (n + 1) = cntL l k i n + 1
  | 0, _, _ => rfl
  | k + 1, i, n => by
    simp only [cntL]
    split
    · exact cntL_add l k (i + 1) n
    · exact cntL_add l k (i + 1) (n + 1)
theorem cntL_congr {l l' : List Num} : ∀ (k : Nat) (i n : Int), (∀ j : Int, i ≤ j → j < i + k → ((gN l (2 * j)).2 = 0 ↔ (gN l' (2 * j)).2 = 0)) → cntL l k i n = cntL l' k i n
  | 0, _, _, _ => rfl
  | k + 1, i, n, h => by
    simp only [cntL]
    have h0 := h i (by omega) (by omega)
    rw [cntL_congr k (i + 1) _ fun j h1 h2 => h j (by omega) (by omega)]
    simp only [h0]
theorem cntL_one {l l' : List Num} {p : Int} (z : (gN l (2 * p)).2 = 0) (o : ¬ (gN l' (2 * p)).2 = 0) : ∀ (k : Nat) (i n : Int), i ≤ p → p < i + k → (∀ j : Int, i ≤ j → j < i + k → j ≠ p → ((gN l (2 * j)).2 = 0 ↔ (gN l' (2 * j)).2 = 0)) → cntL l' k i n = cntL l k i n + 1
  | 0, i, n, h1, h2, _ => by omega
  | k + 1, i, n, h1, h2, h => by
    simp only [cntL]
    by_cases hp : i = p
    · subst hp
      rw [if_pos z, if_neg o, cntL_congr (l := l') (l' := l) k (i + 1) _ fun j h1 h2 => (h j (by omega) (by omega) (by omega)).symm, cntL_add]
    · have h0 := h i (by omega) (by omega) hp
      simp only [h0]
      exact cntL_one z o k (i + 1) _ (by omega) (by omega) fun j h1 h2 h3 => h j (by omega) (by omega) h3

/-- What the memory has of the things that were told. -/
structure Gone (l told has : List Num) (good : List Bool) : Prop where
  lh : has.length = told.length
  lg : good.length = told.length
  rng : ∀ k : Nat, k < told.length → 0 ≤ (gN told k).1 ∧ 2 * (gN told k).1 + 1 < l.length ∧ (gN told k).2 ≤ (gN l (2 * (gN told k).1)).1
  ok : ∀ k : Nat, k < told.length → goodB l (gN told k) = gB good k
  val : ∀ k : Nat, k < told.length → gB good k = true → gN l (2 * (gN told k).1 + 1) = gN has k
  inj : ∀ j k : Nat, j < told.length → k < told.length → gN told j = gN told k → j = k
  cnt : cntL l (l.length / 2) 0 0 = cntB good

theorem goodB_iff {l : List Num} {h : Num} : goodB l h = true ↔ 0 ≤ h.1 ∧ h.1 < (l.length : Int) / 2 ∧ (gN l (2 * h.1)).2 ≠ 0 ∧ (gN l (2 * h.1)).1 = h.2 := by
  unfold goodB
  simp only [Bool.and_eq_true, decide_eq_true_eq]
theorem goodB_same {l l' : List Num} {h : Num} (hl : l'.length = l.length) (e : gN l' (2 * h.1) = gN l (2 * h.1)) : goodB l' h = goodB l h := by
  unfold goodB
  rw [hl, e]
theorem Gone.apart {l told has : List Num} {good : List Bool} (g : Gone l told has good) {j k : Nat} (hj : j < told.length) (hk : k < told.length) (gj : gB good j = true) (gk : gB good k = true) (e : (gN told j).1 = (gN told k).1) : j = k := by
  have a := goodB_iff.1 ((g.ok j hj).trans gj)
  have b := goodB_iff.1 ((g.ok k hk).trans gk)
  rw [e] at a
  exact g.inj j k hj hk (Prod.ext e (a.2.2.2.symm.trans b.2.2.2))

theorem Gone.new {l told has : List Num} {good : List Bool} (g : Gone l told has good) {i : Int} (v : Num) (h0 : 0 ≤ i) (h1 : 2 * i + 1 < l.length) (hz : (gN l (2 * i)).2 = 0) :
    Gone ((l.set (2 * i).toNat ((gN l (2 * i)).1 + 1, 1)).set (2 * i + 1).toNat v) (told ++ [(i, (gN l (2 * i)).1 + 1)]) (has ++ [v]) (good ++ [true]) := by
  obtain ⟨lh, lg, rng, ok, val, inj, cnt⟩ := g
  have ev : ∀ p : Int, 0 ≤ p → gN ((l.set (2 * i).toNat ((gN l (2 * i)).1 + 1, 1)).set (2 * i + 1).toNat v) (2 * p) = if i = p then ((gN l (2 * i)).1 + 1, 1) else gN l (2 * p) := by
    intro p hp
    rw [gO_set (by omega) (by omega) (by rw [List.length_set]; omega), if_neg (by omega), gO_set (by omega) (by omega) (by omega)]
    by_cases e : i = p
    · rw [if_pos e, if_pos (by omega)]
    · rw [if_neg e, if_neg (by omega)]
  have od : ∀ p : Int, 0 ≤ p → gN ((l.set (2 * i).toNat ((gN l (2 * i)).1 + 1, 1)).set (2 * i + 1).toNat v) (2 * p + 1) = if i = p then v else gN l (2 * p + 1) := by
    intro p hp
    rw [gO_set (by omega) (by omega) (by rw [List.length_set]; omega)]
    by_cases e : i = p
    · rw [if_pos e, if_pos (by omega)]
    · rw [if_neg e, if_neg (by omega), gO_set (by omega) (by omega) (by omega), if_neg (by omega)]
  generalize hl' : (l.set (2 * i).toNat ((gN l (2 * i)).1 + 1, 1)).set (2 * i + 1).toNat v = l' at *
  have len : l'.length = l.length := by rw [← hl']; simp
  have hold : ∀ k : Nat, k < told.length → gN (told ++ [(i, (gN l (2 * i)).1 + 1)]) k = gN told k := fun k hk => gO_app hk
  have hnew : gN (told ++ [(i, (gN l (2 * i)).1 + 1)]) told.length = (i, (gN l (2 * i)).1 + 1) := gO_app1
  have hL : (told ++ [(i, (gN l (2 * i)).1 + 1)]).length = told.length + 1 := by simp
  generalize hT : told ++ [(i, (gN l (2 * i)).1 + 1)] = T at *
  have split_ : ∀ k, k < T.length → k < told.length ∨ k = told.length := fun k hk => by omega
  refine ⟨by rw [hL]; simp [lh], by rw [hL]; simp [lg], fun k hk => ?_, fun k hk => ?_, fun k hk gk => ?_, fun j k hj hk e => ?_, ?_⟩
  · rcases split_ k hk with hk | rfl
    · have r := rng k hk
      rw [hold k hk, ev _ r.1, len]
      refine ⟨r.1, r.2.1, ?_⟩
      split
      · rename_i e; rw [← e] at r; simp only; omega
      · exact r.2.2
    · rw [hnew, ev i h0, if_pos rfl, len]
      exact ⟨h0, h1, Int.le_refl _⟩
  · rcases split_ k hk with hk | rfl
    · have r := rng k hk
      rw [hold k hk, gB_app (by omega), ← ok k hk]
      by_cases e : i = (gN told k).1
      · have a : goodB l (gN told k) = false := by
          cases hg : goodB l (gN told k)
          · rfl
          · have := (goodB_iff.1 hg).2.2.1
            rw [← e] at this
            exact absurd hz this
        rw [a]
        cases hg : goodB l' (gN told k)
        · rfl
        · have := (goodB_iff.1 hg).2.2.2
          rw [ev _ r.1, if_pos e] at this
          rw [← e] at r
          simp only at this
          omega
      · exact goodB_same len (by rw [ev _ r.1, if_neg e])
    · rw [hnew, show told.length = good.length from lg.symm, gB_app1]
      refine goodB_iff.2 ?_
      simp only
      rw [ev i h0, if_pos rfl]
      exact ⟨h0, by omega, by simp, rfl⟩
  · rcases split_ k hk with hk | rfl
    · have r := rng k hk
      rw [gB_app (by omega)] at gk
      have hg := (goodB_iff.1 ((ok k hk).trans gk)).2.2.1
      rw [hold k hk, od _ r.1, if_neg (fun e => hg (by rw [← e]; exact hz)), gO_app (by omega)]
      exact val k hk gk
    · rw [hnew, od i h0, if_pos rfl, show told.length = has.length from lh.symm, gO_app1]
  · have no : ∀ k, k < told.length → gN told k ≠ (i, (gN l (2 * i)).1 + 1) := by
      intro k hk e
      have r := rng k hk
      rw [e] at r
      simp only at r
      omega
    rcases split_ j hj with hj | rfl <;> rcases split_ k hk with hk | rfl
    · rw [hold j hj, hold k hk] at e
      exact inj j k hj hk e
    · rw [hold j hj, hnew] at e
      exact absurd e (no j hj)
    · rw [hold k hk, hnew] at e
      exact absurd e.symm (no k hk)
    · rfl
  · rw [len, cntL_one (l := l) (l' := l') (p := i) hz (by rw [ev i h0, if_pos rfl]; simp) _ _ _ (by omega) (by omega) (fun j a b c => by rw [ev j a, if_neg (fun e => c e.symm)]), cnt]
    simp [cntB, List.count_append]

theorem Gone.del {l told has : List Num} {good : List Bool} (g : Gone l told has good) {k : Nat} (hk : k < told.length) (gk : gB good k = true) :
    Gone (l.set (2 * (gN told k).1).toNat ((gN told k).2, 0)) told has (good.set k false) := by
  have ap := fun j hj gj e => g.apart (j := j) hj hk gj gk e
  obtain ⟨lh, lg, rng, ok, val, inj, cnt⟩ := g
  have rk := rng k hk
  have gg := goodB_iff.1 ((ok k hk).trans gk)
  have ev : ∀ p : Int, 0 ≤ p → gN (l.set (2 * (gN told k).1).toNat ((gN told k).2, 0)) (2 * p) = if (gN told k).1 = p then ((gN told k).2, 0) else gN l (2 * p) := by
    intro p hp
    rw [gO_set (by omega) (by omega) (by omega)]
    by_cases e : (gN told k).1 = p
    · rw [if_pos e, if_pos (by omega)]
    · rw [if_neg e, if_neg (by omega)]
  have od : ∀ p : Int, 0 ≤ p → gN (l.set (2 * (gN told k).1).toNat ((gN told k).2, 0)) (2 * p + 1) = gN l (2 * p + 1) := by
    intro p hp
    rw [gO_set (by omega) (by omega) (by omega), if_neg (by omega)]
  generalize hl' : l.set (2 * (gN told k).1).toNat ((gN told k).2, 0) = l' at *
  have len : l'.length = l.length := by rw [← hl']; simp
  refine ⟨lh, by simp [lg], fun j hj => ?_, fun j hj => ?_, fun j hj gj => ?_, inj, ?_⟩
  · have r := rng j hj
    rw [ev _ r.1, len]
    refine ⟨r.1, r.2.1, ?_⟩
    split
    · rename_i e
      have := r.2.2
      rw [← e, gg.2.2.2] at this
      exact this
    · exact r.2.2
  · have r := rng j hj
    rw [gB_set (by omega)]
    by_cases e : (gN told k).1 = (gN told j).1
    · have a : goodB l' (gN told j) = false := by
        cases hg : goodB l' (gN told j)
        · rfl
        · have := (goodB_iff.1 hg).2.2.1
          rw [ev _ r.1, if_pos e] at this
          exact absurd rfl this
      rw [a]
      split
      · rfl
      · rename_i hne
        cases hg : gB good j
        · rfl
        · exact absurd (ap j hj hg e.symm).symm hne
    · rw [if_neg (fun h => e (by rw [h])), ← ok j hj]
      exact goodB_same len (by rw [ev _ r.1, if_neg e])
  · have r := rng j hj
    rw [gB_set (by omega)] at gj
    split at gj
    · cases gj
    · rw [od _ r.1]
      exact val j hj gj
  · have h1 := cntL_one (l := l') (l' := l) (p := (gN told k).1) (by rw [ev _ rk.1, if_pos rfl]) gg.2.2.1 (l.length / 2) 0 0 (by omega) (by omega) (fun j a b c => by rw [ev j a, if_neg (fun e => c e.symm)])
    rw [len]
    have hc : k < good.length := by omega
    have hv : good[k] = true := by
      have := gB_get hc
      rw [gk, List.getElem?_eq_getElem hc] at this
      exact Option.some.inj this
    have h2 : 0 < good.count true := List.count_pos_iff.2 (hv ▸ List.getElem_mem hc)
    unfold cntB at cnt ⊢
    rw [List.count_set hc, hv]
    simp
    omega
theorem Gone.delNo {l told has : List Num} {good : List Bool} (g : Gone l told has good) {k : Nat} (hk : k < told.length) (gk : gB good k = false) : good.set k false = good := by
  have hc : k < good.length := by have := g.lg; omega
  have hv : good[k] = false := by
    have := gB_get hc
    rw [gk, List.getElem?_eq_getElem hc] at this
    exact Option.some.inj this
  rw [← hv]
  exact List.set_getElem_self hc
theorem Gone.store {l told has : List Num} {good : List Bool} (g : Gone l told has good) {k : Nat} (hk : k < told.length) (gk : gB good k = true) (v : Num) :
    Gone (l.set (2 * (gN told k).1 + 1).toNat v) told (has.set k v) good := by
  have ap := fun j hj gj e => g.apart (j := j) hj hk gj gk e
  obtain ⟨lh, lg, rng, ok, val, inj, cnt⟩ := g
  have rk := rng k hk
  have ev : ∀ p : Int, 0 ≤ p → gN (l.set (2 * (gN told k).1 + 1).toNat v) (2 * p) = gN l (2 * p) := by
    intro p hp
    rw [gO_set (by omega) (by omega) (by omega), if_neg (by omega)]
  have od : ∀ p : Int, 0 ≤ p → gN (l.set (2 * (gN told k).1 + 1).toNat v) (2 * p + 1) = if (gN told k).1 = p then v else gN l (2 * p + 1) := by
    intro p hp
    rw [gO_set (by omega) (by omega) (by omega)]
    by_cases e : (gN told k).1 = p
    · rw [if_pos e, if_pos (by omega)]
    · rw [if_neg e, if_neg (by omega)]
  generalize hl' : l.set (2 * (gN told k).1 + 1).toNat v = l' at *
  have len : l'.length = l.length := by rw [← hl']; simp
  refine ⟨by simp [lh], lg, fun j hj => ?_, fun j hj => ?_, fun j hj gj => ?_, inj, ?_⟩
  · have r := rng j hj
    rw [ev _ r.1, len]
    exact r
  · have r := rng j hj
    rw [← ok j hj]
    exact goodB_same len (ev _ r.1)
  · have r := rng j hj
    have hs := gO_set (l := has) (x := v) (i := k) (j := j) (by omega) (by omega) (by omega)
    rw [show ((k : Nat) : Int).toNat = k by omega] at hs
    rw [od _ r.1, hs]
    by_cases e : (gN told k).1 = (gN told j).1
    · have := ap j hj gj e.symm
      rw [if_pos e, if_pos (by omega)]
    · rw [if_neg e, if_neg (fun h => e (by rw [show k = j by omega]))]
      exact val j hj gj
  · rw [len, ← cnt]
    exact cntL_congr _ _ _ fun j a b => by rw [ev j a]

/-- A new thing, on a list. -/
theorem newM_plain {l : List Num} (hok : l.all rightN = true) (v : Num) : (∃ e, e ≠ 0 ∧ (newM l.length v).run rdP wrP l = (((0, 0), e), l)) ∨
    ∃ i : Int, 0 ≤ i ∧ 2 * i + 1 < l.length ∧ (gN l (2 * i)).2 = 0 ∧ rightN v = true ∧ (newM l.length v).run rdP wrP l = (((i, (gN l (2 * i)).1 + 1), 0), (l.set (2 * i).toNat ((gN l (2 * i)).1 + 1, 1)).set (2 * i + 1).toNat v) := by
  have key : ∀ (k : Nat) (i : Int), 0 ≤ i → (freeM l.length k i).run rdP wrP l = ((0, 0, 31), l) ∨ ∃ p : Int, 0 ≤ p ∧ 2 * p + 1 < l.length ∧ (gN l (2 * p)).2 = 0 ∧ (gN l (2 * p)).1 < 1048576 ∧ (freeM l.length k i).run rdP wrP l = ((p, (gN l (2 * p)).1, 0), l) := by
    intro k
    induction k with
    | zero => intro i h; exact .inl rfl
    | succ k ih =>
      intro i h
      by_cases h1 : 2 * i + 1 < l.length
      · rw [freeM_plain_step k i h h1]
        split
        · rename_i h2
          exact .inr ⟨i, h, h1, h2.1, h2.2, rfl⟩
        · exact ih (i + 1) (by omega)
      · left
        simp only [freeM]
        rw [if_pos (by omega)]; rfl
  unfold newM
  by_cases hv : rightN v = true
  · rw [if_pos hv, MP.run_bind]
    rcases key (l.length : Int).toNat 0 (Int.le_refl _) with e | ⟨i, h0, h1, h2, h3, e⟩
    · rw [e]
      exact .inl ⟨31, by decide, rfl⟩
    · rw [e]
      refine .inr ⟨i, h0, h1, h2, hv, ?_⟩
      have gr := rightN_iff.1 (gN_right (i := 2 * i) hok)
      simp only [if_true, MP.run]
      rw [wrP_in (rightN_iff.2 ⟨by simp only; omega, by simp⟩) (by omega) (by omega)]
      simp only [if_true, MP.run]
      rw [wrP_in hv (by omega) (by rw [List.length_set]; omega)]
      rfl
  · rw [if_neg hv]
    exact .inl ⟨1, by decide, rfl⟩

theorem gone0 {n : Nat} : Gone (List.replicate n (0, 0)) [] [] [] := by
  refine ⟨rfl, rfl, fun k hk => by simp at hk, fun k hk => by simp at hk, fun k hk => by simp at hk, fun j k hj => by simp at hj, ?_⟩
  have : ∀ (k : Nat) (i m : Int), cntL (List.replicate n ((0, 0) : Num)) k i m = m := by
    intro k
    induction k with
    | zero => intro i m; rfl
    | succ k ih =>
      intro i m
      have e : (gN (List.replicate n ((0, 0) : Num)) (2 * i)).2 = 0 := by
        unfold gN
        rw [List.getD_eq_getElem?_getD, List.getElem?_replicate]
        split <;> rfl
      simp only [cntL]
      rw [if_pos e, ih]
  rw [this]; rfl
end Go.Ev
