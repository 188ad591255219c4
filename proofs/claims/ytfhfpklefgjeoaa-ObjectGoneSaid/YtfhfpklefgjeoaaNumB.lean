/- Lists of numbers: the document's answer for memory. Conditions: none. -/
import Derived.Test.YtfhfpklefgjeoaaNumA
namespace Go.Ev
open Go Go.Proofs
set_option maxRecDepth 10000

theorem eqN {xs ys : Num} {w : World} {K : Bool → Prop} (k : K (decide (xs = ys))) : EqP Try.prog 33 (vN xs) (vN ys) w K := by
  refine EqP.of (decide (xs.1 = ys.1) && (decide (xs.2 = ys.2) && true)) (by kernel_rfl) (by show Try.prog.eqGuardType Try.prog.depth 33 = false; kernel_rfl) ?_
  have : (decide (xs.1 = ys.1) && (decide (xs.2 = ys.2) && true)) = decide (xs = ys) := by
    rw [Bool.eq_iff_iff]; simp [Prod.ext_iff]
  rw [this]; exact k

theorem same_any {a b : Option Addr} {c d : Nat} {l r : List Num} (hl : l.length ≤ 9223372036854775807) : ∀ β w As, Sat β w As → Rds β As 2 encN a l → Rds β As 2 encN b r →
    Calls Try.prog 24 #[.slice a l.length c, .slice b r.length d] w fun e w' => e = .returned (.bool (decide (l = r))) ∧ Sat β w' As := by
  intro β w As h hr hq
  refine calls_W (args := [.slice a l.length c, .slice b r.length d]) Try.func24 rfl rfl rfl ?_
  conv => whnf
  repeat (first | (refine CW.run rfl ?_; conv => whnf) | (refine CW.go ?_; conv => whnf) | (refine Wr.any ?_; conv => whnf))
  refine sel_mk (fun h1 => ?_) (fun h1 => ?_)
  · conv => whnf
    repeat (first | (refine CW.run rfl ?_; conv => whnf) | (refine CW.go ?_; conv => whnf) | (refine Wr.any ?_; conv => whnf))
    refine ⟨retB (decide_eq_false ?_).symm, h⟩
    rintro rfl; simp at h1
  have hlen : l.length = r.length := by simp at h1; omega
  conv => whnf
  repeat (first | (refine CW.run rfl ?_; conv => whnf) | (refine CW.go ?_; conv => whnf) | (refine Wr.any ?_; conv => whnf))
  refine CW.loop [0, 1, 5] (fun m vs w => ∃ k : Nat, k ≤ l.length ∧ m = l.length - k ∧ vs = [.slice a l.length c, .slice b r.length d, .int .i64 k] ∧ Sat β w As ∧ l.take k = r.take k) ?_ ?_
  · conv => whnf
    repeat (first | (refine CW.run rfl ?_; conv => whnf) | (refine CW.go ?_; conv => whnf) | (refine Wr.any ?_; conv => whnf))
    exact ⟨_, 0, Nat.zero_le _, rfl, rfl, h, by simp⟩
  rintro m _ w ⟨k, hk, rfl, rfl, h, hall⟩
  conv => whnf
  repeat (first | (refine CW.run rfl ?_; conv => whnf) | (refine CW.go ?_; conv => whnf) | (refine Wr.any ?_; conv => whnf))
  refine sel_mk (fun h1 => ?_) (fun h1 => ?_)
  · have hlt : k < l.length := by simpa using h1
    have hx := List.getElem?_eq_getElem hlt
    have hlt' : k < r.length := by omega
    have hy := List.getElem?_eq_getElem hlt'
    conv => whnf
    repeat (first | (refine CW.run rfl ?_; conv => whnf) | (refine CW.go ?_; conv => whnf) | (refine Wr.any ?_; conv => whnf))
    refine CW.draw [(0, 0), (1, 0), (2, 0), (3, 4), (4, 0), (5, 0), (6, 0), (7, 4), (8, 3)] rfl (by kernel_rfl) (fun _ => True) (fun w e1 e2 e3 e4 => ⟨trivial, ?_⟩)
    replace h := h.draw e1 e2 e3 e4
    clear e1 e2 e3 e4
    conv => whnf
    repeat (first | (refine CW.run rfl ?_; conv => whnf) | (refine CW.go ?_; conv => whnf) | (refine Wr.any ?_; conv => whnf))
    refine Chk.mk ⟨by omega, by omega, hr.okLt hlt⟩ ?_
    conv => whnf
    repeat (first | (refine CW.run rfl ?_; conv => whnf) | (refine CW.go ?_; conv => whnf) | (refine Wr.any ?_; conv => whnf))
    refine hr.ldN (i := k) h hx rfl (by simp) ?_
    conv => whnf
    repeat (first | (refine CW.run rfl ?_; conv => whnf) | (refine CW.go ?_; conv => whnf) | (refine Wr.any ?_; conv => whnf))
    refine Chk.mk ⟨by omega, by omega, hq.okLt hlt'⟩ ?_
    conv => whnf
    repeat (first | (refine CW.run rfl ?_; conv => whnf) | (refine CW.go ?_; conv => whnf) | (refine Wr.any ?_; conv => whnf))
    refine hq.ldN (i := k) h hy rfl (by simp) ?_
    conv => whnf
    repeat (first | (refine CW.run rfl ?_; conv => whnf) | (refine CW.go ?_; conv => whnf) | (refine Wr.any ?_; conv => whnf))
    refine eqN (xs := l[k]) (ys := r[k]) ?_
    conv => whnf
    repeat (first | (refine CW.run rfl ?_; conv => whnf) | (refine CW.go ?_; conv => whnf) | (refine Wr.any ?_; conv => whnf))
    refine sel_mk (fun h2 => ?_) (fun h2 => ?_)
    · conv => whnf
      repeat (first | (refine CW.run rfl ?_; conv => whnf) | (refine CW.go ?_; conv => whnf) | (refine Wr.any ?_; conv => whnf))
      refine ⟨retB (decide_eq_false ?_).symm, h⟩
      rintro rfl; simp at h2
    · conv => whnf
      repeat (first | (refine CW.run rfl ?_; conv => whnf) | (refine CW.go ?_; conv => whnf) | (refine Wr.any ?_; conv => whnf))
      refine ⟨_, ?_, k + 1, hlt, rfl, ?_, h, ?_⟩
      · omega
      · rw [wr64 (by omega) (by omega)]; rfl
      · rw [List.take_succ_eq_append_getElem hlt, List.take_succ_eq_append_getElem hlt', hall]
        simp at h2; rw [h2]
  · have hlt : k = l.length := by simp at h1; omega
    subst hlt
    conv => whnf
    repeat (first | (refine CW.run rfl ?_; conv => whnf) | (refine CW.go ?_; conv => whnf) | (refine Wr.any ?_; conv => whnf))
    refine ⟨retB (decide_eq_true ?_).symm, h⟩
    rw [List.take_length, hlen, List.take_length] at hall
    exact hall

theorem ref2Right_any {a : Option Addr} {c : Nat} {l : List Num} (hl : l.length ≤ 9223372036854775807) : ∀ β w As, Sat β w As → Rds β As 2 encN a l →
    Calls Try.prog 14 #[.slice a l.length c] w fun e w' => e = .returned (.bool (l.all rightN && decide (l.length ≤ 4096))) ∧ Sat β w' As := by
  intro β w As h hr
  refine calls_W (args := [.slice a l.length c]) Try.func14 rfl rfl rfl ?_
  conv => whnf
  repeat (first | (refine CW.run rfl ?_; conv => whnf) | (refine CW.go ?_; conv => whnf) | (refine Wr.any ?_; conv => whnf))
  refine CW.loop [0, 3] (fun m vs w => ∃ k : Nat, k ≤ l.length ∧ m = l.length - k ∧ vs = [.slice a l.length c, .int .i64 k] ∧ Sat β w As ∧ (l.take k).all rightN = true) ?_ ?_
  · conv => whnf
    repeat (first | (refine CW.run rfl ?_; conv => whnf) | (refine CW.go ?_; conv => whnf) | (refine Wr.any ?_; conv => whnf))
    exact ⟨_, 0, Nat.zero_le _, rfl, rfl, h, by simp⟩
  rintro m _ w ⟨k, hk, rfl, rfl, h, hall⟩
  conv => whnf
  repeat (first | (refine CW.run rfl ?_; conv => whnf) | (refine CW.go ?_; conv => whnf) | (refine Wr.any ?_; conv => whnf))
  refine sel_mk (fun h1 => ?_) (fun h1 => ?_)
  · have hlt : k < l.length := by simpa using h1
    have hx := List.getElem?_eq_getElem hlt
    have m1 := refRight_any l[k]
    generalize e1 : rightN l[k] = b1 at m1
    conv => whnf
    repeat (first | (refine CW.run rfl ?_; conv => whnf) | (refine CW.go ?_; conv => whnf) | (refine Wr.any ?_; conv => whnf))
    refine Chk.mk ⟨by omega, by omega, hr.okLt hlt⟩ ?_
    conv => whnf
    repeat (first | (refine CW.run rfl ?_; conv => whnf) | (refine CW.go ?_; conv => whnf) | (refine Wr.any ?_; conv => whnf))
    refine hr.ldN (i := k) h hx rfl (by simp) ?_
    conv => whnf
    repeat (first | (refine CW.run rfl ?_; conv => whnf) | (refine CW.go ?_; conv => whnf) | (refine Wr.any ?_; conv => whnf))
    refine m1.call h (Try.call44 _ _) fun w h => ?_
    conv => whnf
    repeat (first | (refine CW.run rfl ?_; conv => whnf) | (refine CW.go ?_; conv => whnf) | (refine Wr.any ?_; conv => whnf))
    refine sel_mk (fun h2 => ?_) (fun h2 => ?_)
    · conv => whnf
      repeat (first | (refine CW.run rfl ?_; conv => whnf) | (refine CW.go ?_; conv => whnf) | (refine Wr.any ?_; conv => whnf))
      have : l.all rightN = false := all_not hlt (by simp at h2; rw [e1, h2])
      exact ⟨retB (by rw [this]; rfl), h⟩
    · conv => whnf
      repeat (first | (refine CW.run rfl ?_; conv => whnf) | (refine CW.go ?_; conv => whnf) | (refine Wr.any ?_; conv => whnf))
      refine ⟨_, ?_, k + 1, hlt, rfl, ?_, h, all_take hlt hall (by simp at h2; rw [e1, h2])⟩
      · omega
      · rw [wr64 (by omega) (by omega)]; rfl
  · have hlt : k = l.length := by simp at h1; omega
    subst hlt
    conv => whnf
    repeat (first | (refine CW.run rfl ?_; conv => whnf) | (refine CW.go ?_; conv => whnf) | (refine Wr.any ?_; conv => whnf))
    rw [List.take_length] at hall
    refine ⟨retB ?_, h⟩
    rw [hall]; simp; omega

/-- What is read of a list. -/
def rdN (l : List Num) (i : Int) : Num × Int := if 0 ≤ i then match l[i.toNat]? with | some x => (x, 0) | none => ((0, 0), 2) else ((0, 0), 2)
theorem rdN_in {l : List Num} {i : Int} (h0 : 0 ≤ i) (h : i.toNat < l.length) : rdN l i = (l[i.toNat], 0) := by
  unfold rdN; rw [if_pos h0, List.getElem?_eq_getElem h]
theorem rdN_out {l : List Num} {i : Int} (h : i < 0 ∨ (l.length : Int) ≤ i) : rdN l i = ((0, 0), 2) := by
  unfold rdN
  split
  · rw [List.getElem?_eq_none (by omega)]
  · rfl
theorem ref2Read_any (i : Int) {a : Option Addr} {c : Nat} {l : List Num} : ∀ β w As, Sat β w As → Rds β As 2 encN a l →
    Calls Try.prog 58 #[.slice a l.length c, .int .i64 i] w fun e w' => e = .returned (.tuple #[vN (rdN l i).1, .int .i64 (rdN l i).2]) ∧ Sat β w' As := by
  intro β w As h hr
  refine calls_W (args := [.slice a l.length c, .int .i64 i]) Try.func58 rfl rfl rfl ?_
  conv => whnf
  repeat (first | (refine CW.run rfl ?_; conv => whnf) | (refine CW.go ?_; conv => whnf) | (refine Wr.any ?_; conv => whnf))
  refine h.newK fun b w h => ?_
  conv => whnf
  repeat (first | (refine CW.run rfl ?_; conv => whnf) | (refine CW.go ?_; conv => whnf) | (refine Wr.any ?_; conv => whnf))
  have bad : (i < 0 ∨ (l.length : Int) ≤ i) → ∀ w, Sat β w (row b 33 [.int .i64 0, .int .i64 0] :: As) → LdN w ⟨b, 0, none⟩ 2 fun cs => (Ending.returned (.tuple #[.agg cs.toArray, .int .i64 2]) = .returned (.tuple #[vN (rdN l i).1, .int .i64 (rdN l i).2]) ∧ Sat β w As) := by
    intro ho w h
    refine h.ldN 0 rfl _ rfl rfl ?_
    rw [rdN_out ho]
    exact ⟨rfl, h.tail⟩
  refine sel_mk (fun h1 => ?_) (fun h1 => ?_)
  · conv => whnf
    repeat (first | (refine CW.run rfl ?_; conv => whnf) | (refine CW.go ?_; conv => whnf) | (refine Wr.any ?_; conv => whnf))
    refine h.store 0 rfl rfl rfl rfl rfl ?_
    conv => whnf
    repeat (refine Wr.any ?_; conv => whnf)
    intro w h
    conv => whnf
    repeat (first | (refine CW.run rfl ?_; conv => whnf) | (refine CW.go ?_; conv => whnf) | (refine Wr.any ?_; conv => whnf))
    exact bad (by simp at h1; omega) w h
  · conv => whnf
    repeat (first | (refine CW.run rfl ?_; conv => whnf) | (refine CW.go ?_; conv => whnf) | (refine Wr.any ?_; conv => whnf))
    refine sel_mk (fun h2 => ?_) (fun h2 => ?_)
    · conv => whnf
      repeat (first | (refine CW.run rfl ?_; conv => whnf) | (refine CW.go ?_; conv => whnf) | (refine Wr.any ?_; conv => whnf))
      refine h.store 0 rfl rfl rfl rfl rfl ?_
      conv => whnf
      repeat (refine Wr.any ?_; conv => whnf)
      intro w h
      conv => whnf
      repeat (first | (refine CW.run rfl ?_; conv => whnf) | (refine CW.go ?_; conv => whnf) | (refine Wr.any ?_; conv => whnf))
      exact bad (by simp at h2; omega) w h
    · simp at h1 h2
      have hlt : i.toNat < l.length := by omega
      have hx := List.getElem?_eq_getElem hlt
      conv => whnf
      repeat (first | (refine CW.run rfl ?_; conv => whnf) | (refine CW.go ?_; conv => whnf) | (refine Wr.any ?_; conv => whnf))
      refine Chk.mk ⟨by omega, by omega, hr.okLt hlt⟩ ?_
      conv => whnf
      repeat (first | (refine CW.run rfl ?_; conv => whnf) | (refine CW.go ?_; conv => whnf) | (refine Wr.any ?_; conv => whnf))
      refine hr.ldN (i := i.toNat) h.tail hx rfl (by simp) ?_
      conv => whnf
      repeat (first | (refine CW.run rfl ?_; conv => whnf) | (refine CW.go ?_; conv => whnf) | (refine Wr.any ?_; conv => whnf))
      refine h.store 0 rfl rfl rfl rfl rfl ?_
      conv => whnf
      repeat (refine Wr.any ?_; conv => whnf)
      intro w h
      conv => whnf
      repeat (first | (refine CW.run rfl ?_; conv => whnf) | (refine CW.go ?_; conv => whnf) | (refine Wr.any ?_; conv => whnf))
      refine h.ldN 0 rfl _ rfl rfl ?_
      conv => whnf
      repeat (refine Wr.any ?_; conv => whnf)
      rw [rdN_in h1 hlt]
      exact ⟨rfl, h.tail⟩
end Go.Ev
