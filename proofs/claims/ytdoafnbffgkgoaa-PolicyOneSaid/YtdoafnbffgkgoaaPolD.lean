/- The law's own walks. Conditions: none. -/
import Derived.Test.YtdoafnbffgkgoaaPolC
namespace Go.Ev
open Go Go.Proofs
set_option maxRecDepth 10000

theorem sIdx4 : sIdx S4' S4 = 3 := by decide +kernel
theorem sIdxE : sIdx S4' ⟨#[69, 108, 100, 101, 114]⟩ = -1 := by decide +kernel
theorem parse4 : Fn Try.prog 13 [.string S4] (.tuple #[.int .i64 3, .int .i64 0]) := by
  have := parse S4
  rw [sIdx4, if_pos (by decide)] at this
  exact this
theorem parseE : Fn Try.prog 13 [.string ⟨#[69, 108, 100, 101, 114]⟩] (.tuple #[.int .i64 0, .int .i64 21]) := by
  have := parse ⟨#[69, 108, 100, 101, 114]⟩
  rw [sIdxE, if_neg (by decide)] at this
  exact this

theorem seq_self (a : ByteArray) : seq a a = true := by simp [seq]
theorem y1 : yOf 0 (1, 0) [(2, 0), (3, 0)] = false := by decide
theorem y2 : yOf 3 (0, 3) [(0, 1), (0, 2)] = true := by decide
theorem p3 : Fn Try.prog 10 [.int .i64 3] (.int .i64 4) := pause_any 3 (by decide) (by decide)
theorem p9 : Fn Try.prog 10 [.int .i64 9] (.int .i64 8) := pause_any 9 (by decide) (by decide)
theorem n2 : nameOf 2 = S3 := by decide
theorem name2 : Fn Try.prog 15 [.int .i64 2] (.string S3) := by have := name_any 2; rw [n2] at this; exact this

theorem alive_any : Fn Try.prog 6 [] (.bool true) := by
  intro β w As h
  refine calls_W (args := []) Try.func6 rfl rfl rfl ?_
  conv => whnf
  repeat (first | (refine CW.run rfl ?_; conv => whnf) | (refine CW.go ?_; conv => whnf))
  refine parse4.call h (Try.call13 _ _) fun w h => ?_
  conv => whnf
  repeat (first | (refine CW.run rfl ?_; conv => whnf) | (refine CW.go ?_; conv => whnf))
  refine parseE.call h (Try.call13 _ _) fun w h => ?_
  conv => whnf
  repeat (first | (refine CW.run rfl ?_; conv => whnf) | (refine CW.go ?_; conv => whnf))
  refine h.newK fun b w h => ?_
  conv => whnf
  repeat (first | (refine CW.run rfl ?_; conv => whnf) | (refine CW.go ?_; conv => whnf))
  have h := h.own_of (sz := 2) (enc := encD) [(2, 0), (3, 0)] rfl (fun _ _ => rfl)
  have hy := yields_any 0 (1, 0) (c := 2) (l := [(2, 0), (3, 0)]) (by decide) β w _ h (h.rds 0 rfl)
  rw [y1] at hy
  refine CallF.val hy (Try.call9 _ _) fun w h => ?_
  replace h := h.tail
  clear hy
  conv => whnf
  repeat (first | (refine CW.run rfl ?_; conv => whnf) | (refine CW.go ?_; conv => whnf))
  refine h.newK fun b w h => ?_
  conv => whnf
  repeat (first | (refine CW.run rfl ?_; conv => whnf) | (refine CW.go ?_; conv => whnf))
  have h := h.own_of (sz := 2) (enc := encD) [(0, 1), (0, 2)] rfl (fun _ _ => rfl)
  have hy := yields_any 3 (0, 3) (c := 2) (l := [(0, 1), (0, 2)]) (by decide) β w _ h (h.rds 0 rfl)
  rw [y2] at hy
  refine CallF.val hy (Try.call9 _ _) fun w h => ?_
  replace h := h.tail
  clear hy
  conv => whnf
  repeat (first | (refine CW.run rfl ?_; conv => whnf) | (refine CW.go ?_; conv => whnf))
  refine p3.call h (Try.call10 _ _) fun w h => ?_
  conv => whnf
  repeat (first | (refine CW.run rfl ?_; conv => whnf) | (refine CW.go ?_; conv => whnf))
  refine p9.call h (Try.call10 _ _) fun w h => ?_
  conv => whnf
  repeat (first | (refine CW.run rfl ?_; conv => whnf) | (refine CW.go ?_; conv => whnf))
  refine name2.call h (Try.call15 _ _) fun w h => ?_
  conv => whnf
  repeat (first | (refine CW.run rfl ?_; conv => whnf) | (refine CW.go ?_; conv => whnf))
  exact ⟨retB (seq_self S3), h⟩
end Go.Ev
