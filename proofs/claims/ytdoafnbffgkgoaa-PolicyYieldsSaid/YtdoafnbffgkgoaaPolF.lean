/- The walk of the law on two sides. Conditions: none. -/
import Derived.Test.YtdoafnbffgkgoaaPolE
namespace Go.Ev
open Go Go.Proofs
set_option maxRecDepth 10000

theorem sum1 (x : Int × Int) (h1 : -9223372036854775808 ≤ x.2) (h2 : x.2 < 9223372036854775808) : sumW [x] = x.2 := by
  show IntKind.i64.wrap (0 + x.2) = x.2
  rw [Int.zero_add, wr64 h1 h2]
/-- One side asks, beside one other. -/
theorem ask1 (p : Int) (a b : Int × Int) {r : Bool} (hr : yOf p a [b] = r) {β w : World} {As : List Asrt} {B : Nat} {K : Value → World → Prop} (h : Sat β w (row B 26 [.int .i64 b.1, .int .i64 b.2] :: As))
    (k : ∀ w', Sat β w' As → K (.bool r) w') : CallF Try.prog 9 [.int .i64 p, agD a, .slice (some ⟨B, 0, none⟩) 1 1] w K := by
  have h := h.own_of (sz := 2) (enc := encD) [b] rfl (fun _ _ => rfl)
  have hy := yields_any p a (c := 1) (l := [b]) (by simp) β w _ h (h.rds 0 rfl)
  rw [hr] at hy
  exact CallF.val hy (Try.call9 _ _) fun w h => k w h.tail

theorem yo0 (a b : Int × Int) : yOf 0 a [b] = decide (b.1 ≤ a.1) := by simp [yOf]
theorem yo1 (a b : Int × Int) : yOf 1 a [b] = true := by simp [yOf]
theorem yo2 (a b : Int × Int) : yOf 2 a [b] = false := by simp [yOf]
theorem yo3 (a b : Int × Int) (h1 : -9223372036854775808 ≤ b.2) (h2 : b.2 < 9223372036854775808) : yOf 3 a [b] = decide (a.2 ≤ b.2) := by simp [yOf, sum1 b h1 h2]
theorem pause_mono (e f : Int) (h : e ≤ f) : pauseOf e ≤ pauseOf f := by
  unfold pauseOf; repeat' split
  all_goals omega
theorem pause_range (e : Int) : 0 ≤ pauseOf e ∧ pauseOf e ≤ 8 := by
  unfold pauseOf; repeat' split
  all_goals omega

theorem lawOne (a b : Int × Int) (e : Int) (ha : -9223372036854775808 ≤ a.2 ∧ a.2 < 9223372036854775808) (hb : -9223372036854775808 ≤ b.2 ∧ b.2 < 9223372036854775808) (he : -9223372036854775808 ≤ e ∧ e < 9223372036854775808) :
    Fn Try.prog 5 [agD a, agD b, .int .i64 e] (.bool true) := by
  intro β w As h
  refine calls_W (args := [agD a, agD b, .int .i64 e]) Try.func5 rfl rfl rfl ?_
  conv => whnf
  repeat (first | (refine CW.run rfl ?_; conv => whnf) | (refine CW.go ?_; conv => whnf))
  refine h.newK fun A w h => ?_
  conv => whnf
  repeat (first | (refine CW.run rfl ?_; conv => whnf) | (refine CW.go ?_; conv => whnf))
  refine h.newK fun B w h => ?_
  conv => whnf
  repeat (first | (refine CW.run rfl ?_; conv => whnf) | (refine CW.go ?_; conv => whnf))
  -- x
  refine h.ldN 1 rfl _ rfl rfl ?_
  conv => whnf
  repeat (first | (refine CW.run rfl ?_; conv => whnf) | (refine CW.go ?_; conv => whnf))
  refine h.ldN 0 rfl _ rfl rfl ?_
  conv => whnf
  repeat (first | (refine CW.run rfl ?_; conv => whnf) | (refine CW.go ?_; conv => whnf))
  refine h.newK fun C w h => ?_
  conv => whnf
  repeat (first | (refine CW.run rfl ?_; conv => whnf) | (refine CW.go ?_; conv => whnf))
  refine ask1 0 a b (yo0 a b) h fun w h => ?_
  conv => whnf
  repeat (first | (refine CW.run rfl ?_; conv => whnf) | (refine CW.go ?_; conv => whnf))
  -- y
  refine h.ldN 0 rfl _ rfl rfl ?_
  conv => whnf
  repeat (first | (refine CW.run rfl ?_; conv => whnf) | (refine CW.go ?_; conv => whnf))
  refine h.ldN 1 rfl _ rfl rfl ?_
  conv => whnf
  repeat (first | (refine CW.run rfl ?_; conv => whnf) | (refine CW.go ?_; conv => whnf))
  refine h.newK fun C w h => ?_
  conv => whnf
  repeat (first | (refine CW.run rfl ?_; conv => whnf) | (refine CW.go ?_; conv => whnf))
  refine ask1 0 b a (yo0 b a) h fun w h => ?_
  conv => whnf
  refine CW.join [2, 3, 4, 9] (fun vs w => vs = [.int .i64 e, .pointer (some ⟨A, 0, none⟩), .pointer (some ⟨B, 0, none⟩), .bool true] ∧
    Sat β w (row B 26 [.int .i64 b.1, .int .i64 b.2] :: row A 26 [.int .i64 a.1, .int .i64 a.2] :: As)) ?_ ?_
  · conv => whnf
    repeat (first | (refine CW.run rfl ?_; conv => whnf) | (refine CW.go ?_; conv => whnf))
    refine h.ld 1 rfl rfl ?_
    conv => whnf
    repeat (first | (refine CW.run rfl ?_; conv => whnf) | (refine CW.go ?_; conv => whnf))
    refine h.ld 0 rfl rfl ?_
    by_cases hab : a.1 = b.1
    · conv => whnf
      repeat (first | (refine CW.run rfl ?_; conv => whnf) | (refine CW.go ?_; conv => whnf))
      refine sel_true (by simpa using hab) ?_
      conv => whnf
      repeat (first | (refine CW.run rfl ?_; conv => whnf) | (refine CW.go ?_; conv => whnf))
      refine sel_true (by simp; omega) ?_
      conv => whnf
      repeat (first | (refine CW.run rfl ?_; conv => whnf) | (refine CW.go ?_; conv => whnf))
      refine sel_true (by simp; omega) ?_
      conv => whnf
      repeat (first | (refine CW.run rfl ?_; conv => whnf) | (refine CW.go ?_; conv => whnf))
      exact ⟨rfl, h⟩
    · conv => whnf
      repeat (first | (refine CW.run rfl ?_; conv => whnf) | (refine CW.go ?_; conv => whnf))
      refine sel_false (by simpa using hab) ?_
      conv => whnf
      repeat (first | (refine CW.run rfl ?_; conv => whnf) | (refine CW.go ?_; conv => whnf))
      refine h.ld 1 rfl rfl ?_
      conv => whnf
      repeat (first | (refine CW.run rfl ?_; conv => whnf) | (refine CW.go ?_; conv => whnf))
      refine h.ld 0 rfl rfl ?_
      conv => whnf
      repeat (first | (refine CW.run rfl ?_; conv => whnf) | (refine CW.go ?_; conv => whnf))
      refine sel_true (by simpa using hab) ?_
      conv => whnf
      repeat (first | (refine CW.run rfl ?_; conv => whnf) | (refine CW.go ?_; conv => whnf))
      refine ⟨?_, h⟩
      have : (!(decide (b.1 ≤ a.1) == decide (a.1 ≤ b.1))) = true := by
        by_cases h1 : b.1 ≤ a.1 <;> by_cases h2 : a.1 ≤ b.1 <;> simp [h1, h2] <;> omega
      rw [this]
  rintro _ w ⟨rfl, h⟩
  -- meek
  conv => whnf
  repeat (first | (refine CW.run rfl ?_; conv => whnf) | (refine CW.go ?_; conv => whnf))
  refine h.ldN 1 rfl _ rfl rfl ?_
  conv => whnf
  repeat (first | (refine CW.run rfl ?_; conv => whnf) | (refine CW.go ?_; conv => whnf))
  refine h.ldN 0 rfl _ rfl rfl ?_
  conv => whnf
  repeat (first | (refine CW.run rfl ?_; conv => whnf) | (refine CW.go ?_; conv => whnf))
  refine h.newK fun C w h => ?_
  conv => whnf
  repeat (first | (refine CW.run rfl ?_; conv => whnf) | (refine CW.go ?_; conv => whnf))
  refine ask1 1 a b (yo1 a b) h fun w h => ?_
  conv => whnf
  repeat (first | (refine CW.run rfl ?_; conv => whnf) | (refine CW.go ?_; conv => whnf))
  refine h.ldN 0 rfl _ rfl rfl ?_
  conv => whnf
  repeat (first | (refine CW.run rfl ?_; conv => whnf) | (refine CW.go ?_; conv => whnf))
  refine h.ldN 1 rfl _ rfl rfl ?_
  conv => whnf
  repeat (first | (refine CW.run rfl ?_; conv => whnf) | (refine CW.go ?_; conv => whnf))
  refine h.newK fun C w h => ?_
  conv => whnf
  repeat (first | (refine CW.run rfl ?_; conv => whnf) | (refine CW.go ?_; conv => whnf))
  refine ask1 1 b a (yo1 b a) h fun w h => ?_
  -- bold
  conv => whnf
  repeat (first | (refine CW.run rfl ?_; conv => whnf) | (refine CW.go ?_; conv => whnf))
  refine h.ldN 1 rfl _ rfl rfl ?_
  conv => whnf
  repeat (first | (refine CW.run rfl ?_; conv => whnf) | (refine CW.go ?_; conv => whnf))
  refine h.ldN 0 rfl _ rfl rfl ?_
  conv => whnf
  repeat (first | (refine CW.run rfl ?_; conv => whnf) | (refine CW.go ?_; conv => whnf))
  refine h.newK fun C w h => ?_
  conv => whnf
  repeat (first | (refine CW.run rfl ?_; conv => whnf) | (refine CW.go ?_; conv => whnf))
  refine ask1 2 a b (yo2 a b) h fun w h => ?_
  conv => whnf
  repeat (first | (refine CW.run rfl ?_; conv => whnf) | (refine CW.go ?_; conv => whnf))
  refine h.ldN 0 rfl _ rfl rfl ?_
  conv => whnf
  repeat (first | (refine CW.run rfl ?_; conv => whnf) | (refine CW.go ?_; conv => whnf))
  refine h.ldN 1 rfl _ rfl rfl ?_
  conv => whnf
  repeat (first | (refine CW.run rfl ?_; conv => whnf) | (refine CW.go ?_; conv => whnf))
  refine h.newK fun C w h => ?_
  conv => whnf
  repeat (first | (refine CW.run rfl ?_; conv => whnf) | (refine CW.go ?_; conv => whnf))
  refine ask1 2 b a (yo2 b a) h fun w h => ?_
  -- thrifty
  conv => whnf
  refine CW.join [2, 3, 9, 10, 11, 12] (fun vs w => vs = [.int .i64 e, .pointer (some ⟨A, 0, none⟩), .bool true, .bool true, .bool true, .bool true] ∧
    Sat β w (row A 26 [.int .i64 a.1, .int .i64 a.2] :: As)) ?_ ?_
  · conv => whnf
    repeat (first | (refine CW.run rfl ?_; conv => whnf) | (refine CW.go ?_; conv => whnf))
    refine h.ldN 1 rfl _ rfl rfl ?_
    conv => whnf
    repeat (first | (refine CW.run rfl ?_; conv => whnf) | (refine CW.go ?_; conv => whnf))
    refine h.ldN 0 rfl _ rfl rfl ?_
    conv => whnf
    repeat (first | (refine CW.run rfl ?_; conv => whnf) | (refine CW.go ?_; conv => whnf))
    refine h.newK fun C w h => ?_
    conv => whnf
    repeat (first | (refine CW.run rfl ?_; conv => whnf) | (refine CW.go ?_; conv => whnf))
    refine ask1 3 a b (yo3 a b hb.1 hb.2) h fun w h => ?_
    conv => whnf
    repeat (first | (refine CW.run rfl ?_; conv => whnf) | (refine CW.go ?_; conv => whnf))
    refine sel_mk (fun h1 => ?_) (fun h1 => ?_)
    · conv => whnf
      repeat (first | (refine CW.run rfl ?_; conv => whnf) | (refine CW.go ?_; conv => whnf))
      exact ⟨rfl, h.tail⟩
    · conv => whnf
      repeat (first | (refine CW.run rfl ?_; conv => whnf) | (refine CW.go ?_; conv => whnf))
      refine h.ldN 0 rfl _ rfl rfl ?_
      conv => whnf
      repeat (first | (refine CW.run rfl ?_; conv => whnf) | (refine CW.go ?_; conv => whnf))
      refine h.ldN 1 rfl _ rfl rfl ?_
      conv => whnf
      repeat (first | (refine CW.run rfl ?_; conv => whnf) | (refine CW.go ?_; conv => whnf))
      refine h.newK fun C w h => ?_
      conv => whnf
      repeat (first | (refine CW.run rfl ?_; conv => whnf) | (refine CW.go ?_; conv => whnf))
      refine ask1 3 b a (yo3 b a ha.1 ha.2) h fun w h => ?_
      simp only [decide_eq_false_iff_not] at h1
      have h2 : decide (b.2 ≤ a.2) = true := by simp; omega
      rw [h2]
      conv => whnf
      repeat (first | (refine CW.run rfl ?_; conv => whnf) | (refine CW.go ?_; conv => whnf))
      exact ⟨rfl, h.tail⟩
  rintro _ w ⟨rfl, h⟩
  conv => whnf
  refine CW.join [2, 3, 9, 10, 11, 12, 13] (fun vs w => ∃ f : Int, e ≤ f ∧ f < 9223372036854775808 ∧ vs = [.int .i64 e, .pointer (some ⟨A, 0, none⟩), .bool true, .bool true, .bool true, .bool true, .int .i64 f] ∧
    Sat β w (row A 26 [.int .i64 a.1, .int .i64 a.2] :: As)) ?_ ?_
  · conv => whnf
    repeat (first | (refine CW.run rfl ?_; conv => whnf) | (refine CW.go ?_; conv => whnf))
    exact ⟨e, by omega, he.2, rfl, h⟩
  rintro _ w ⟨f, hf1, hf2, rfl, h⟩
  conv => whnf
  refine CW.join [2, 3, 9, 10, 11, 12, 13] (fun vs w => ∃ f : Int, e ≤ f ∧ f < 9223372036854775808 ∧ vs = [.int .i64 e, .pointer (some ⟨A, 0, none⟩), .bool true, .bool true, .bool true, .bool true, .int .i64 f] ∧
    Sat β w (row A 26 [.int .i64 a.1, .int .i64 a.2] :: As)) ?_ ?_
  · conv => whnf
    repeat (first | (refine CW.run rfl ?_; conv => whnf) | (refine CW.go ?_; conv => whnf))
    refine sel_mk (fun h1 => ?_) (fun h1 => ?_)
    · simp only [decide_eq_true_eq] at h1
      conv => whnf
      repeat (first | (refine CW.run rfl ?_; conv => whnf) | (refine CW.go ?_; conv => whnf))
      exact ⟨f + 1, by omega, by omega, by rw [wr64 (by omega) (by omega)], h⟩
    · conv => whnf
      repeat (first | (refine CW.run rfl ?_; conv => whnf) | (refine CW.go ?_; conv => whnf))
      exact ⟨f, hf1, hf2, rfl, h⟩
  rintro _ w ⟨f, hf1, hf2, rfl, h⟩
  have pe := pause_any e he.1 he.2
  have pf := pause_any f (by omega) hf2
  have hm := pause_mono e f hf1
  have hr := pause_range e
  generalize pauseOf e = ve at pe hm hr
  generalize pauseOf f = vf at pf hm
  conv => whnf
  repeat (first | (refine CW.run rfl ?_; conv => whnf) | (refine CW.go ?_; conv => whnf))
  refine pe.call h (Try.call10 _ _) fun w h => ?_
  conv => whnf
  repeat (first | (refine CW.run rfl ?_; conv => whnf) | (refine CW.go ?_; conv => whnf))
  refine alive_any.call h (Try.call6 _ _) fun w h => ?_
  conv => whnf
  repeat (first | (refine CW.run rfl ?_; conv => whnf) | (refine CW.go ?_; conv => whnf))
  refine pf.call h (Try.call10 _ _) fun w h => ?_
  conv => whnf
  repeat (first | (refine CW.run rfl ?_; conv => whnf) | (refine CW.go ?_; conv => whnf))
  refine sel_true (by simpa using hm) ?_
  conv => whnf
  repeat (first | (refine CW.run rfl ?_; conv => whnf) | (refine CW.go ?_; conv => whnf))
  refine sel_true (by simpa using hr.1) ?_
  conv => whnf
  repeat (first | (refine CW.run rfl ?_; conv => whnf) | (refine CW.go ?_; conv => whnf))
  refine sel_true (by simpa using hr.2) ?_
  conv => whnf
  repeat (first | (refine CW.run rfl ?_; conv => whnf) | (refine CW.go ?_; conv => whnf))
  refine h.ldN 0 rfl _ rfl rfl ?_
  conv => whnf
  repeat (first | (refine CW.run rfl ?_; conv => whnf) | (refine CW.go ?_; conv => whnf))
  refine CallF.val (yields_any 2 a (a := none) (c := 0) (l := []) (by decide) β w _ h Rds.nil) (Try.call9 _ _) fun w h => ?_
  have y0 : yOf 2 a [] = true := by simp [yOf]
  rw [y0]
  conv => whnf
  repeat (first | (refine CW.run rfl ?_; conv => whnf) | (refine CW.go ?_; conv => whnf))
  exact ⟨rfl, h.tail⟩
end Go.Ev
