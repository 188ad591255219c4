/- The walks of who gives way. Conditions: none. -/
import Derived.Test.YtdoafnbffgkgoaaPolA
import Derived.KernelRfl
namespace Go.Ev
open Go Go.Proofs
set_option maxRecDepth 10000

def sumW (l : List (Int × Int)) : Int := l.foldl (fun n x => IntKind.i64.wrap (n + x.2)) 0
theorem sumW_take {l : List (Int × Int)} {k : Nat} (h : k < l.length) : sumW (l.take (k + 1)) = IntKind.i64.wrap (sumW (l.take k) + l[k].2) := by
  unfold sumW
  rw [List.take_succ_eq_append_getElem h, List.foldl_append]; rfl

theorem sides_any {a : Option Addr} {c : Nat} {l : List (Int × Int)} (hl : l.length ≤ 4294967296) : ∀ β w As, Sat β w As → Rds β As 2 encD a l →
    Calls Try.prog 8 #[.slice a l.length c] w fun e w' => ∃ a' c', e = .returned (.slice a' l.length c') ∧ Sat β w' (Own 28 2 encD a' c' l :: As) := by
  intro β w As h hr
  refine calls_W (args := [.slice a l.length c]) Try.func8 rfl rfl rfl ?_
  conv => whnf
  repeat (first | (refine CW.run rfl ?_; conv => whnf) | (refine CW.go ?_; conv => whnf))
  refine CW.loop [0, 3, 4] (fun m vs w => ∃ (k : Nat) (a' : Option Addr) (c' : Nat), k ≤ l.length ∧ m = l.length - k ∧ vs = [.slice a l.length c, .slice a' k c', .int .i64 k] ∧ Sat β w (Own 28 2 encD a' c' (l.take k) :: As)) ?_ ?_
  · conv => whnf
    repeat (first | (refine CW.run rfl ?_; conv => whnf) | (refine CW.go ?_; conv => whnf))
    exact ⟨_, 0, _, _, Nat.zero_le _, rfl, rfl, h.own_nil⟩
  · rintro m _ w ⟨k, a', c', hk, rfl, rfl, h⟩
    conv => whnf
    repeat (first | (refine CW.run rfl ?_; conv => whnf) | (refine CW.go ?_; conv => whnf))
    refine sel_mk (fun h1 => ?_) (fun h1 => ?_)
    · have hlt : k < l.length := by simpa using h1
      have hx := List.getElem?_eq_getElem hlt
      conv => whnf
      repeat (first | (refine CW.run rfl ?_; conv => whnf) | (refine CW.go ?_; conv => whnf))
      refine CW.draw [(0, 0), (1, 0), (2, 0), (3, 0), (4, 0), (5, 4), (6, 0), (7, 0), (8, 0), (9, 0), (10, 4), (11, 0), (12, 3), (13, 3), (14, 0)] rfl (by kernel_rfl) (fun _ => True) (fun w e1 e2 e3 e4 => ⟨trivial, ?_⟩)
      replace h := h.draw e1 e2 e3 e4
      clear e1 e2 e3 e4
      conv => whnf
      repeat (first | (refine CW.run rfl ?_; conv => whnf) | (refine CW.go ?_; conv => whnf))
      refine Chk.mk ⟨by omega, by omega, hr.okLt hlt⟩ ?_
      conv => whnf
      repeat (first | (refine CW.run rfl ?_; conv => whnf) | (refine CW.go ?_; conv => whnf))
      refine hr.ld (i := k) (j := 0) h.tail hx (by decide) rfl (by simp) ?_
      conv => whnf
      repeat (first | (refine CW.run rfl ?_; conv => whnf) | (refine CW.go ?_; conv => whnf))
      refine Chk.mk ⟨by omega, by omega, hr.okLt hlt⟩ ?_
      conv => whnf
      repeat (first | (refine CW.run rfl ?_; conv => whnf) | (refine CW.go ?_; conv => whnf))
      refine hr.ld (i := k) (j := 1) h.tail hx (by decide) rfl (by simp) ?_
      conv => whnf
      repeat (first | (refine CW.run rfl ?_; conv => whnf) | (refine CW.go ?_; conv => whnf))
      refine h.newK fun b w h => ?_
      conv => whnf
      repeat (first | (refine CW.run rfl ?_; conv => whnf) | (refine CW.go ?_; conv => whnf))
      refine h.append1 l[k] rfl (by simp; omega) rfl rfl rfl (by decide) rfl rfl rfl (fun _ => rfl) (fun _ => rfl) (by show _ * 16 ≤ _; omega) fun a' c' w h => ?_
      conv => whnf
      repeat (first | (refine CW.run rfl ?_; conv => whnf) | (refine CW.go ?_; conv => whnf))
      refine ⟨_, ?_, k + 1, a', c', hlt, rfl, ?_, ?_⟩
      · omega
      · rw [wr64 (by omega) (by omega)]; rfl
      · rw [List.take_succ_eq_append_getElem hlt]; exact h
    · have hlt : k = l.length := by simp at h1; omega
      subst hlt
      conv => whnf
      repeat (first | (refine CW.run rfl ?_; conv => whnf) | (refine CW.go ?_; conv => whnf))
      rw [List.take_length] at h
      exact ⟨_, _, rfl, h⟩
end Go.Ev
