/- Things that come and go: the document's answer. Conditions: none. -/
import Derived.Test.YtfhfpklefgjeoaaObjB
namespace Go.Ev
open Go Go.Proofs
set_option maxRecDepth 10000
set_option maxHeartbeats 4000000

section
variable {a : Option Addr} {c : Nat} {l : List Num}

theorem set3_any (i : Int) (v : Num) (h0 : 0 ≤ i) (h1 : i < l.length) (hl : l.length ≤ 4096) : ∀ β w As, Sat β w As → Rds β As 2 encN a l →
    Calls Try.prog 94 #[.slice a l.length c, .int .i64 i, vN v] w fun e w' => ∃ a' c', e = .returned (.slice a' (l.set i.toNat v).length c') ∧ Sat β w' (Own 33 2 encN a' c' (l.set i.toNat v) :: As) := by
  intro β w As h hr
  refine calls_W (args := [.slice a l.length c, .int .i64 i, vN v]) Try.func94 rfl rfl rfl ?_
  conv => whnf
  skip
  refine Sat.newK h fun V w h => ?_
  conv => whnf
  repeat (first | ((with_reducible refine CW.is ?_); refine CW.run rfl ?_; conv => whnf))
  refine Sat.newK h fun B w h => ?_
  conv => whnf
  skip
  have h := h.own_of (sz := 2) (enc := encN) [] rfl (fun _ hx => by cases hx)
  refine Sat.append (l := []) (xs := l) (sz := 2) (enc := encN) h rfl rfl rfl (by decide) rfl rfl rfl hr.cons.cons (fun _ => rfl) (fun _ => rfl) (by show _ * 16 ≤ _; simp; omega) fun a' c' w h => ?_
  simp only [List.nil_append, List.length_nil, Nat.zero_add] at h ⊢
  conv => whnf
  repeat (first | ((with_reducible refine CW.is ?_); refine CW.run rfl ?_; conv => whnf) | ((with_reducible refine Chk.is ?_); refine Rds.chkR (Sat.rds 0 h rfl) (by omega) (by omega) ?_; conv => whnf) | ((with_reducible refine LdN.is ?_); refine Sat.ldN 1 h rfl _ rfl rfl ?_; conv => whnf))
  refine h.storeOwn (j := i.toNat) 0 v rfl rfl rfl rfl rfl rfl (by omega) rfl ?_
  conv => whnf
  repeat (refine Wr.any ?_; conv => whnf)
  intro w h
  conv => whnf
  repeat (first | ((with_reducible refine CW.is ?_); refine CW.run rfl ?_; conv => whnf))
  refine ⟨a', c', by simp, h.f1.tail⟩

/-- Whether a handle is good, on a list. -/
def goodB (l : List Num) (h : Num) : Bool := decide (0 ≤ h.1) && (decide (h.1 < l.length / 2) && (decide ((gN l (2 * h.1)).2 ≠ 0) && decide ((gN l (2 * h.1)).1 = h.2)))
theorem goodH_plain (h : Num) : (goodH l.length h).run rdP wrP l = (if goodB l h then 0 else 32, l) := by
  unfold goodH goodB
  by_cases h1 : h.1 < 0 ∨ (l.length : Int) / 2 ≤ h.1
  · rw [if_pos h1]
    simp only [MP.run]
    congr 1
    rcases h1 with h1 | h1
    · simp [show ¬ 0 ≤ h.1 by omega]
    · simp [show ¬ h.1 < (l.length : Int) / 2 by omega]
  · rw [if_neg h1]
    simp only [MP.run]
    rw [rdP_in (by omega) (by omega)]
    simp only [if_pos, show 0 ≤ h.1 by omega, show h.1 < (l.length : Int) / 2 by omega, decide_true, Bool.true_and]
    by_cases h2 : (gN l (2 * h.1)).2 = 0
    · simp [h2, MP.run]
    · by_cases h3 : (gN l (2 * h.1)).1 = h.2
      · simp [h2, h3, MP.run]
      · simp [h2, h3, MP.run]
theorem goodB_ok {h : Num} (hg : goodB l h = true) : 0 ≤ h.1 ∧ 2 * h.1 + 1 < l.length ∧ (gN l (2 * h.1)).1 = h.2 := by
  unfold goodB at hg
  simp only [Bool.and_eq_true, decide_eq_true_eq] at hg
  omega
theorem delM_plain (h : Num) (hok : l.all rightN = true) : (delM l.length h).run rdP wrP l = if goodB l h then (0, l.set (2 * h.1).toNat (h.2, 0)) else (32, l) := by
  unfold delM
  rw [MP.run_bind, goodH_plain]
  cases hg : goodB l h
  · simp [MP.run]
  · have ok := goodB_ok hg
    have hr := rightN_iff.1 (gN_right (i := 2 * h.1) hok)
    simp only [if_true, MP.run]
    rw [wrP_in (rightN_iff.2 ⟨by simp only; omega, by simp⟩) (by omega) (by omega)]
theorem loadM_plain (h : Num) : (loadM l.length h).run rdP wrP l = if goodB l h then ((gN l (2 * h.1 + 1), 0), l) else (((0, 0), 32), l) := by
  unfold loadM
  rw [MP.run_bind, goodH_plain]
  cases hg : goodB l h
  · simp [MP.run]
  · have ok := goodB_ok hg
    simp only [if_true, MP.run]
    rw [rdP_in (by omega) (by omega)]
theorem storeM_plain (h v : Num) : (storeM l.length h v).run rdP wrP l = if rightN v then (if goodB l h then (0, l.set (2 * h.1 + 1).toNat v) else (32, l)) else (1, l) := by
  unfold storeM
  cases hv : rightN v
  · simp [MP.run]
  · simp only [if_true]
    rw [MP.run_bind, goodH_plain]
    cases hg : goodB l h
    · simp [MP.run]
    · have ok := goodB_ok hg
      simp only [if_true, MP.run]
      rw [wrP_in hv (by omega) (by omega)]

theorem good3_any (x : Num) (hl : l.length ≤ 4096) : ∀ β w As, Sat β w As → Rds β As 2 encN a l →
    Calls Try.prog 95 #[.slice a l.length c, vN x] w fun e w' => e = .returned (.bool (goodB l x)) ∧ Sat β w' As := by
  intro β w As h hr0
  refine calls_W (args := [.slice a l.length c, vN x]) Try.func95 rfl rfl rfl ?_
  unfold goodB
  conv => whnf
  repeat (first | ((with_reducible refine CW.is ?_); refine CW.go ?_; conv => whnf) | ((with_reducible refine New.is ?_); refine Sat.newK h fun b w h => ?_; conv => whnf) | ((with_reducible refine Ld.is ?_); refine Sat.ld 0 h rfl rfl ?_; conv => whnf))
  refine sel_mk (fun h1 => ?_) (fun h1 => ?_)
  · have h1 : x.1 < 0 := by simpa using h1
    conv => whnf
    repeat (first | ((with_reducible refine CW.is ?_); refine CW.run rfl ?_; conv => whnf))
    exact ⟨retB (by simp [show ¬ 0 ≤ x.1 by omega]), h.tail⟩
  have h1 : ¬ x.1 < 0 := by simpa using h1
  conv => whnf
  repeat (first | ((with_reducible refine CW.is ?_); refine CW.run rfl ?_; conv => whnf) | ((with_reducible refine Wr.is ?_); refine Wr.any ?_; conv => whnf) | ((with_reducible refine Chk.is ?_); refine Chk.mk (by decide) ?_; conv => whnf) | ((with_reducible refine Ld.is ?_); refine Sat.ld 0 h rfl rfl ?_; conv => whnf))
  rw [div2 (by omega) (by omega)]
  refine sel_mk (fun h2 => ?_) (fun h2 => ?_)
  · have h2 : (l.length : Int) / 2 ≤ x.1 := by simpa using h2
    conv => whnf
    repeat (first | ((with_reducible refine CW.is ?_); refine CW.run rfl ?_; conv => whnf))
    exact ⟨retB (by simp [show ¬ x.1 < (l.length : Int) / 2 by omega]), h.tail⟩
  have h2 : ¬ (l.length : Int) / 2 ≤ x.1 := by simpa using h2
  rw [show decide (0 ≤ x.1) = true by simp; omega, show decide (x.1 < (l.length : Int) / 2) = true by simp; omega]
  simp only [Bool.true_and]
  conv => whnf
  repeat (first | ((with_reducible refine CW.is ?_); refine CW.run rfl ?_; conv => whnf) | ((with_reducible refine Wr.is ?_); refine Wr.i64 (by omega) (by omega) ?_; conv => whnf) | ((with_reducible refine Chk.is ?_); refine Rds.chkR hr0 (by omega) (by omega) ?_; conv => whnf) | ((with_reducible refine New.is ?_); refine Sat.newK h fun b w h => ?_; conv => whnf) | ((with_reducible refine Ld.is ?_); refine Sat.ld 0 h rfl rfl ?_; conv => whnf) | ((with_reducible refine LdN.is ?_); refine Rds.ldNR hr0.cons h rfl (by omega) (by omega) ?_; conv => whnf) | ((with_reducible refine Runs.is ?_); refine Sat.store 0 h rfl rfl rfl rfl rfl ?_; (conv => whnf); intro w h; (conv => whnf)))
  refine sel_mk (fun h3 => ?_) (fun h3 => ?_)
  · conv => whnf
    repeat (first | ((with_reducible refine CW.is ?_); refine CW.run rfl ?_; conv => whnf) | ((with_reducible refine Ld.is ?_); (first | refine Sat.ld 0 h rfl rfl ?_ | refine Sat.ld 1 h rfl rfl ?_); conv => whnf))
    exact ⟨retB (by simp at h3; simp [h3]), h.tail.tail⟩
  · conv => whnf
    repeat (first | ((with_reducible refine CW.is ?_); refine CW.run rfl ?_; conv => whnf))
    exact ⟨retB (by simp at h3; simp [h3]), h.tail.tail⟩

theorem del3_any (x : Num) (hl : l.length ≤ 4096) (hok : l.all rightN = true) : ∀ β w As, Sat β w As → Rds β As 2 encN a l →
    Calls Try.prog 81 #[.slice a l.length c, vN x] w fun e w' => ∃ a' c', e = .returned (.tuple #[.slice a' ((delM l.length x).run rdP wrP l).2.length c', .int .i64 ((delM l.length x).run rdP wrP l).1]) ∧ Fresh β w' As a c l a' c' ((delM l.length x).run rdP wrP l).2 := by
  intro β w As h hr0
  refine calls_W (args := [.slice a l.length c, vN x]) Try.func81 rfl rfl rfl ?_
  rw [delM_plain x hok]
  have m := fun w As h hr => good3_any (a := a) (c := c) x hl β w As h hr
  have ok := goodB_ok (l := l) (h := x)
  generalize goodB l x = g at m ok
  conv => whnf
  repeat (first | ((with_reducible refine CW.is ?_); refine CW.run rfl ?_; conv => whnf) | ((with_reducible refine New.is ?_); refine Sat.newK h fun b w h => ?_; conv => whnf) | ((with_reducible refine LdN.is ?_); refine Sat.ldN 0 h rfl _ rfl rfl ?_; conv => whnf))
  refine CallF.val (m w _ h hr0.cons) (Try.call95 _ _) fun w h => ?_
  cases g with
  | false =>
    conv => whnf
    repeat (first | ((with_reducible refine CW.is ?_); (first | refine CW.run rfl ?_ | refine CW.go ?_); conv => whnf))
    exact ⟨a, c, rfl, .inl ⟨rfl, rfl, rfl, h.tail⟩⟩
  | true =>
    have ok := ok rfl
    conv => whnf
    repeat (first | ((with_reducible refine CW.is ?_); (first | refine CW.run rfl ?_ | refine CW.go ?_); conv => whnf) | ((with_reducible refine Wr.is ?_); refine Wr.i64 (by omega) (by omega) ?_; conv => whnf) | ((with_reducible refine Ld.is ?_); refine Sat.ld 0 h rfl rfl ?_; conv => whnf))
    refine CallF.ret (set3_any (2 * x.1) (x.2, 0) (by omega) (by omega) hl β w _ h hr0.cons) (Try.call94 _ _) ?_
    rintro _ w ⟨a', c', rfl, h⟩
    refine ⟨_, rfl, ?_⟩
    conv => whnf
    repeat (first | ((with_reducible refine CW.is ?_); refine CW.run rfl ?_; conv => whnf))
    exact ⟨a', c', rfl, .inr h.f1.tail⟩
theorem load3_any (x : Num) (hl : l.length ≤ 4096) : ∀ β w As, Sat β w As → Rds β As 2 encN a l →
    Calls Try.prog 82 #[.slice a l.length c, vN x] w fun e w' => e = .returned (oNE ((loadM l.length x).run rdP wrP l).1) ∧ Sat β w' As := by
  intro β w As h hr0
  refine calls_W (args := [.slice a l.length c, vN x]) Try.func82 rfl rfl rfl ?_
  rw [loadM_plain x]
  have m := fun w As h hr => good3_any (a := a) (c := c) x hl β w As h hr
  have ok := goodB_ok (l := l) (h := x)
  generalize goodB l x = g at m ok
  conv => whnf
  repeat (first | ((with_reducible refine CW.is ?_); refine CW.run rfl ?_; conv => whnf) | ((with_reducible refine New.is ?_); refine Sat.newK h fun b w h => ?_; conv => whnf) | ((with_reducible refine LdN.is ?_); refine Sat.ldN 1 h rfl _ rfl rfl ?_; conv => whnf))
  refine CallF.val (m w _ h hr0.cons.cons) (Try.call95 _ _) fun w h => ?_
  cases g with
  | false =>
    conv => whnf
    repeat (first | ((with_reducible refine CW.is ?_); (first | refine CW.run rfl ?_ | refine CW.go ?_); conv => whnf) | ((with_reducible refine LdN.is ?_); refine Sat.ldN 0 h rfl _ rfl rfl ?_; conv => whnf) | ((with_reducible refine Runs.is ?_); refine Sat.store 0 h rfl rfl rfl rfl rfl ?_; (conv => whnf); intro w h; (conv => whnf)))
    exact ⟨rfl, h.tail.tail⟩
  | true =>
    have ok := ok rfl
    conv => whnf
    repeat (first | ((with_reducible refine CW.is ?_); (first | refine CW.run rfl ?_ | refine CW.go ?_); conv => whnf) | ((with_reducible refine Wr.is ?_); refine Wr.i64 (by omega) (by omega) ?_; conv => whnf) | ((with_reducible refine Chk.is ?_); refine Rds.chkR hr0 (by omega) (by omega) ?_; conv => whnf) | ((with_reducible refine Ld.is ?_); refine Sat.ld 1 h rfl rfl ?_; conv => whnf) | ((with_reducible refine LdN.is ?_); (first | refine Sat.ldN 0 h rfl _ rfl rfl ?_ | refine Rds.ldNR hr0.cons.cons h rfl (by omega) (by omega) ?_); conv => whnf) | ((with_reducible refine Runs.is ?_); refine Sat.store 0 h rfl rfl rfl rfl rfl ?_; (conv => whnf); intro w h; (conv => whnf)))
    exact ⟨rfl, h.tail.tail⟩
theorem store3_any (x v : Num) (hl : l.length ≤ 4096) : ∀ β w As, Sat β w As → Rds β As 2 encN a l →
    Calls Try.prog 83 #[.slice a l.length c, vN x, vN v] w fun e w' => ∃ a' c', e = .returned (.tuple #[.slice a' ((storeM l.length x v).run rdP wrP l).2.length c', .int .i64 ((storeM l.length x v).run rdP wrP l).1]) ∧ Fresh β w' As a c l a' c' ((storeM l.length x v).run rdP wrP l).2 := by
  intro β w As h hr0
  refine calls_W (args := [.slice a l.length c, vN x, vN v]) Try.func83 rfl rfl rfl ?_
  rw [storeM_plain x v]
  have m := fun w As h hr => good3_any (a := a) (c := c) x hl β w As h hr
  have m2 := refRight_any v
  have ok := goodB_ok (l := l) (h := x)
  generalize goodB l x = g at m ok
  generalize rightN v = r at m2
  conv => whnf
  repeat (first | ((with_reducible refine CW.is ?_); refine CW.run rfl ?_; conv => whnf) | ((with_reducible refine New.is ?_); refine Sat.newK h fun b w h => ?_; conv => whnf) | ((with_reducible refine LdN.is ?_); refine Sat.ldN 0 h rfl _ rfl rfl ?_; conv => whnf))
  refine m2.call h (Try.call44 _ _) fun w h => ?_
  cases r with
  | false =>
    conv => whnf
    repeat (first | ((with_reducible refine CW.is ?_); (first | refine CW.run rfl ?_ | refine CW.go ?_); conv => whnf))
    exact ⟨a, c, rfl, .inl ⟨rfl, rfl, rfl, h.tail.tail⟩⟩
  | true => ?_
  conv => whnf
  repeat (first | ((with_reducible refine CW.is ?_); (first | refine CW.run rfl ?_ | refine CW.go ?_); conv => whnf) | ((with_reducible refine LdN.is ?_); refine Sat.ldN 1 h rfl _ rfl rfl ?_; conv => whnf))
  refine CallF.val (m w _ h hr0.cons.cons) (Try.call95 _ _) fun w h => ?_
  cases g with
  | false =>
    conv => whnf
    repeat (first | ((with_reducible refine CW.is ?_); (first | refine CW.run rfl ?_ | refine CW.go ?_); conv => whnf))
    exact ⟨a, c, rfl, .inl ⟨rfl, rfl, rfl, h.tail.tail⟩⟩
  | true =>
    have ok := ok rfl
    conv => whnf
    repeat (first | ((with_reducible refine CW.is ?_); (first | refine CW.run rfl ?_ | refine CW.go ?_); conv => whnf) | ((with_reducible refine Wr.is ?_); refine Wr.i64 (by omega) (by omega) ?_; conv => whnf) | ((with_reducible refine Ld.is ?_); refine Sat.ld 1 h rfl rfl ?_; conv => whnf) | ((with_reducible refine LdN.is ?_); refine Sat.ldN 0 h rfl _ rfl rfl ?_; conv => whnf))
    refine CallF.ret (set3_any (2 * x.1 + 1) v (by omega) (by omega) hl β w _ h hr0.cons.cons) (Try.call94 _ _) ?_
    rintro _ w ⟨a', c', rfl, h⟩
    refine ⟨_, rfl, ?_⟩
    conv => whnf
    repeat (first | ((with_reducible refine CW.is ?_); refine CW.run rfl ?_; conv => whnf))
    exact ⟨a', c', rfl, .inr (h.f2.tail.f1.tail)⟩

def cntL (l : List Num) : Nat → Int → Int → Int
  | 0, _, n => n
  | k + 1, i, n => cntL l k (i + 1) (if (gN l (2 * i)).2 = 0 then n else n + 1)
theorem countM_plain : ∀ (k : Nat) (i n : Int), 0 ≤ i → 2 * (i + k) ≤ l.length → (countM k i n).run rdP wrP l = ((cntL l k i n, 0), l)
  | 0, _, _, _, _ => rfl
  | k + 1, i, n, h0, h1 => by
    simp only [countM, MP.run, cntL]
    rw [rdP_in (by omega) (by omega)]
    simp only [if_true]
    exact countM_plain k (i + 1) _ (by omega) (by omega)
theorem count3_any (hl : l.length ≤ 4096) : ∀ β w As, Sat β w As → Rds β As 2 encN a l →
    Calls Try.prog 84 #[.slice a l.length c] w fun e w' => e = .returned (.int .i64 (cntL l (l.length / 2) 0 0)) ∧ Sat β w' As := by
  intro β w As h hr0
  refine calls_W (args := [.slice a l.length c]) Try.func84 rfl rfl rfl ?_
  conv => whnf
  repeat (first | ((with_reducible refine CW.is ?_); refine CW.run rfl ?_; conv => whnf))
  refine CW.loop [0, 3, 4] (fun m vs w => ∃ (k : Nat) (i n : Int), m = k ∧ 0 ≤ i ∧ i + k = (l.length / 2 : Nat) ∧ 0 ≤ n ∧ n ≤ i ∧ vs = [.slice a l.length c, .int .i64 n, .int .i64 i] ∧ Sat β w As ∧ cntL l k i n = cntL l (l.length / 2) 0 0) ?_ ?_
  · conv => whnf
    skip
    exact ⟨_, l.length / 2, 0, 0, rfl, by omega, by omega, by omega, by omega, rfl, h, rfl⟩
  generalize cntL l (l.length / 2) 0 0 = res
  clear h
  rintro k _ w ⟨_, i, n, rfl, h0, hk, hn0, hn, rfl, h, hres⟩
  conv => whnf
  repeat (first | ((with_reducible refine CW.is ?_); (first | refine CW.run rfl ?_ | refine CW.go ?_); conv => whnf) | ((with_reducible refine Wr.is ?_); refine Wr.i64 (by omega) (by omega) ?_; conv => whnf))
  refine sel_mk (fun h1 => ?_) (fun h1 => ?_)
  rotate_left
  · have h1 : (l.length : Int) ≤ 2 * i + 1 := by simpa using h1
    obtain rfl : k = 0 := by omega
    conv => whnf
    repeat (first | ((with_reducible refine CW.is ?_); refine CW.run rfl ?_; conv => whnf))
    subst hres
    exact ⟨rfl, h⟩
  have h1 : 2 * i + 1 < l.length := by simpa using h1
  obtain ⟨k, rfl⟩ : ∃ k', k = k' + 1 := ⟨k - 1, by omega⟩
  simp only [cntL] at hres
  conv => whnf
  repeat (first | ((with_reducible refine CW.is ?_); (first | refine CW.run rfl ?_ | refine CW.go ?_); conv => whnf) | ((with_reducible refine Wr.is ?_); refine Wr.i64 (by omega) (by omega) ?_; conv => whnf) | ((with_reducible refine Chk.is ?_); refine Rds.chkR hr0 (by omega) (by omega) ?_; conv => whnf) | ((with_reducible refine Ld.is ?_); refine Rds.ldR1 hr0 h rfl (by omega) (by omega) ?_; conv => whnf))
  refine sel_mk (fun h2 => ?_) (fun h2 => ?_)
  · have h2 : ¬ (gN l (2 * i)).2 = 0 := by simpa using h2
    rw [if_neg h2] at hres
    conv => whnf
    repeat (first | ((with_reducible refine CW.is ?_); refine CW.run rfl ?_; conv => whnf) | ((with_reducible refine Wr.is ?_); refine Wr.i64 (by omega) (by omega) ?_; conv => whnf))
    exact ⟨_, by omega, k, i + 1, n + 1, rfl, by omega, by omega, by omega, by omega, rfl, h, hres⟩
  · have h2 : (gN l (2 * i)).2 = 0 := by simpa using h2
    rw [if_pos h2] at hres
    conv => whnf
    repeat (first | ((with_reducible refine CW.is ?_); refine CW.run rfl ?_; conv => whnf) | ((with_reducible refine Wr.is ?_); refine Wr.i64 (by omega) (by omega) ?_; conv => whnf))
    exact ⟨_, by omega, k, i + 1, n, rfl, by omega, by omega, by omega, by omega, rfl, h, hres⟩

theorem freeM_plain_step (k : Nat) (i : Int) (h0 : 0 ≤ i) (h1 : 2 * i + 1 < l.length) :
    (freeM l.length (k + 1) i).run rdP wrP l = if (gN l (2 * i)).2 = 0 ∧ (gN l (2 * i)).1 < 1048576 then ((i, (gN l (2 * i)).1, 0), l) else (freeM l.length k (i + 1)).run rdP wrP l := by
  simp only [freeM]
  rw [if_neg (by omega)]
  simp only [MP.run]
  rw [rdP_in (by omega) (by omega)]
  simp only [if_true]
  split <;> rfl
theorem new3_any (v : Num) (hl : l.length ≤ 4096) (hok : l.all rightN = true) : ∀ β w As, Sat β w As → Rds β As 2 encN a l →
    Calls Try.prog 80 #[.slice a l.length c, vN v] w fun e w' => ∃ a' c', e = .returned (.tuple #[.slice a' ((newM l.length v).run rdP wrP l).2.length c', vN ((newM l.length v).run rdP wrP l).1.1, .int .i64 ((newM l.length v).run rdP wrP l).1.2]) ∧ Fresh β w' As a c l a' c' ((newM l.length v).run rdP wrP l).2 := by
  intro β w As h hr0
  refine calls_W (args := [.slice a l.length c, vN v]) Try.func80 rfl rfl rfl ?_
  have m2 := refRight_any v
  unfold newM
  have hv0 := fun (h : rightN v = true) => h
  generalize hv : rightN v = r at m2 hv0
  conv => whnf
  skip
  refine Sat.newK h fun V w h => ?_
  conv => whnf
  skip
  refine Sat.newK h fun R w h => ?_
  conv => whnf
  repeat (first | ((with_reducible refine CW.is ?_); refine CW.run rfl ?_; conv => whnf) | ((with_reducible refine LdN.is ?_); refine Sat.ldN 1 h rfl _ rfl rfl ?_; conv => whnf))
  refine m2.call h (Try.call44 _ _) fun w h => ?_
  cases r with
  | false =>
    conv => whnf
    repeat (first | ((with_reducible refine CW.is ?_); (first | refine CW.run rfl ?_ | refine CW.go ?_); conv => whnf) | ((with_reducible refine LdN.is ?_); refine Sat.ldN 0 h rfl _ rfl rfl ?_; conv => whnf) | ((with_reducible refine Runs.is ?_); refine Sat.store 0 h rfl rfl rfl rfl rfl ?_; (conv => whnf); intro w h; (conv => whnf)))
    exact ⟨a, c, rfl, .inl ⟨rfl, rfl, rfl, h.tail.tail⟩⟩
  | true => ?_
  simp only [if_true]
  rw [MP.run_bind]
  have tn : (l.length : Int).toNat = l.length := by omega
  rw [tn]
  conv => whnf
  repeat (first | ((with_reducible refine CW.is ?_); (first | refine CW.run rfl ?_ | refine CW.go ?_); conv => whnf))
  refine CW.loop [0, 3, 5, 8] (fun m vs w => ∃ (k : Nat) (i : Int), m = k ∧ 0 ≤ i ∧ i ≤ l.length ∧ (l.length : Int) ≤ 2 * i + 1 + 2 * k ∧ vs = [.slice a l.length c, ptr V, ptr R, .int .i64 i] ∧ Sat β w (row R 33 [.int .i64 0, .int .i64 0] :: row V 33 [.int .i64 v.1, .int .i64 v.2] :: As) ∧ (freeM l.length k i).run rdP wrP l = (freeM l.length l.length 0).run rdP wrP l) ?_ ?_
  · conv => whnf
    skip
    exact ⟨_, l.length, 0, rfl, by omega, by omega, by omega, rfl, h, rfl⟩
  generalize (freeM l.length l.length 0).run rdP wrP l = res
  clear h
  rintro k _ w ⟨_, i, rfl, h0, hi, hk, rfl, h, hres⟩
  conv => whnf
  repeat (first | ((with_reducible refine CW.is ?_); (first | refine CW.run rfl ?_ | refine CW.go ?_); conv => whnf) | ((with_reducible refine Wr.is ?_); refine Wr.i64 (by omega) (by omega) ?_; conv => whnf))
  refine sel_mk (fun h1 => ?_) (fun h1 => ?_)
  rotate_left
  · have h1 : (l.length : Int) ≤ 2 * i + 1 := by simpa using h1
    have e : (freeM l.length k i).run rdP wrP l = ((0, 0, 31), l) := by
      cases k with
      | zero => rfl
      | succ k => simp only [freeM]; rw [if_pos h1]; rfl
    rw [e] at hres
    subst hres
    conv => whnf
    repeat (first | ((with_reducible refine CW.is ?_); refine CW.run rfl ?_; conv => whnf) | ((with_reducible refine LdN.is ?_); refine Sat.ldN 0 h rfl _ rfl rfl ?_; conv => whnf) | ((with_reducible refine Runs.is ?_); refine Sat.store 0 h rfl rfl rfl rfl rfl ?_; (conv => whnf); intro w h; (conv => whnf)))
    exact ⟨a, c, rfl, .inl ⟨rfl, rfl, rfl, h.tail.tail⟩⟩
  have h1 : 2 * i + 1 < l.length := by simpa using h1
  obtain ⟨k, rfl⟩ : ∃ k', k = k' + 1 := ⟨k - 1, by omega⟩
  rw [freeM_plain_step k i h0 h1] at hres
  have gr := rightN_iff.1 (gN_right (i := 2 * i) hok)
  conv => whnf
  repeat (first | ((with_reducible refine CW.is ?_); (first | refine CW.run rfl ?_ | refine CW.go ?_); conv => whnf) | ((with_reducible refine Wr.is ?_); refine Wr.i64 (by omega) (by omega) ?_; conv => whnf) | ((with_reducible refine Chk.is ?_); refine Rds.chkR hr0 (by omega) (by omega) ?_; conv => whnf) | ((with_reducible refine LdN.is ?_); refine Rds.ldNR hr0.cons.cons h rfl (by omega) (by omega) ?_; conv => whnf))
  refine Sat.newK h fun C w h => ?_
  conv => whnf
  repeat (first | ((with_reducible refine CW.is ?_); refine CW.run rfl ?_; conv => whnf) | ((with_reducible refine Ld.is ?_); refine Sat.ld 0 h rfl rfl ?_; conv => whnf) | ((with_reducible refine Runs.is ?_); refine Sat.store 0 h rfl rfl rfl rfl rfl ?_; (conv => whnf); intro w h; (conv => whnf)))
  refine sel_mk (fun h2 => ?_) (fun h2 => ?_)
  rotate_left
  · have h2 : ¬ (gN l (2 * i)).2 = 0 := by simpa using h2
    rw [if_neg (fun hh => h2 hh.1)] at hres
    conv => whnf
    repeat (first | ((with_reducible refine CW.is ?_); refine CW.run rfl ?_; conv => whnf) | ((with_reducible refine Wr.is ?_); refine Wr.i64 (by omega) (by omega) ?_; conv => whnf))
    exact ⟨_, by omega, k, i + 1, rfl, by omega, by omega, by omega, rfl, h.tail, hres⟩
  have h2 : (gN l (2 * i)).2 = 0 := by simpa using h2
  conv => whnf
  repeat (first | ((with_reducible refine CW.is ?_); refine CW.run rfl ?_; conv => whnf) | ((with_reducible refine Ld.is ?_); refine Sat.ld 0 h rfl rfl ?_; conv => whnf))
  refine sel_mk (fun h3 => ?_) (fun h3 => ?_)
  rotate_left
  · have h3 : ¬ (gN l (2 * i)).1 < 1048576 := by simpa using h3
    rw [if_neg (fun hh => h3 hh.2)] at hres
    conv => whnf
    repeat (first | ((with_reducible refine CW.is ?_); refine CW.run rfl ?_; conv => whnf) | ((with_reducible refine Wr.is ?_); refine Wr.i64 (by omega) (by omega) ?_; conv => whnf))
    exact ⟨_, by omega, k, i + 1, rfl, by omega, by omega, by omega, rfl, h.tail, hres⟩
  have h3 : (gN l (2 * i)).1 < 1048576 := by simpa using h3
  rw [if_pos ⟨h2, h3⟩] at hres
  subst hres
  simp only [if_true, MP.run]
  rw [wrP_in (rightN_iff.2 ⟨by simp only; omega, by simp⟩) (by omega) (by omega)]
  simp only [if_true, MP.run]
  rw [wrP_in hv (by omega) (by rw [List.length_set]; omega)]
  simp only [if_true, MP.run]
  conv => whnf
  repeat (first | ((with_reducible refine CW.is ?_); refine CW.run rfl ?_; conv => whnf) | ((with_reducible refine Wr.is ?_); refine Wr.i64 (by omega) (by omega) ?_; conv => whnf) | ((with_reducible refine Ld.is ?_); refine Sat.ld 0 h rfl rfl ?_; conv => whnf))
  refine CallF.ret (set3_any (2 * i) ((gN l (2 * i)).1 + 1, 1) (by omega) (by omega) hl β w _ h hr0.cons.cons.cons) (Try.call94 _ _) ?_
  rintro _ w ⟨a', c', rfl, h⟩
  refine ⟨_, rfl, ?_⟩
  conv => whnf
  repeat (first | ((with_reducible refine CW.is ?_); refine CW.run rfl ?_; conv => whnf) | ((with_reducible refine Wr.is ?_); refine Wr.i64 (by omega) (by omega) ?_; conv => whnf) | ((with_reducible refine LdN.is ?_); refine Sat.ldN 3 h rfl _ rfl rfl ?_; conv => whnf))
  refine CallF.ret (set3_any (2 * i + 1) v (by omega) (by rw [List.length_set]; omega) (by rw [List.length_set]; omega) β w _ h (h.rds 0 rfl)) (Try.call94 _ _) ?_
  rintro _ w ⟨a', c', rfl, h⟩
  refine ⟨_, rfl, ?_⟩
  conv => whnf
  repeat (first | ((with_reducible refine CW.is ?_); refine CW.run rfl ?_; conv => whnf) | ((with_reducible refine Wr.is ?_); refine Wr.i64 (by omega) (by omega) ?_; conv => whnf) | ((with_reducible refine Ld.is ?_); refine Sat.ld 2 h rfl rfl ?_; conv => whnf) | ((with_reducible refine LdN.is ?_); refine Sat.ldN 3 h rfl _ rfl rfl ?_; conv => whnf) | ((with_reducible refine Runs.is ?_); refine Sat.store 3 h rfl rfl rfl rfl rfl ?_; (conv => whnf); intro w h; (conv => whnf)) | ((with_reducible refine CW.is ?_); refine CW.draw (id := 11) [(0, 0), (1, 0), (2, 0), (3, 4), (4, 0), (5, 0), (6, 0), (7, 3), (8, 0)] rfl (by kernel_rfl) (fun _ => True) (fun w e1 e2 e3 e4 => ⟨trivial, ?_⟩); replace h := h.draw e1 e2 e3 e4; clear e1 e2 e3 e4; (conv => whnf)))
  exact ⟨a', c', rfl, .inr (h.cut 4)⟩
end
end Go.Ev
