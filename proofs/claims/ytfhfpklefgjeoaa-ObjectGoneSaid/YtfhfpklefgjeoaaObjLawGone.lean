/- ObjectGone returns true for all cells, and acts. Conditions: none. -/
import Derived.Test.YtfhfpklefgjeoaaRows
import Derived.Test.YtfhfpklefgjeoaaObjG
import Derived.Test.YtfhfpklefgjeoaaEvP
import Derived.WalkKit
import Derived.ProofKit
import Derived.OpenShut
import Derived.ShutString
import Derived.ChangeOld
import Derived.Below
import Derived.Carry
namespace Go.Proofs.Ytfhfpklefgjeoaa.objectGone
open Go.ChangeShapes Go.WideShapes Go.ChangeAt Go.RowKit
open Go.Ev
set_option maxRecDepth 100000
def decN : List Value → Num
  | [.int _ a, .int _ b] => (a, b)
  | _ => (0, 0)
def decA : List Value → Act3
  | [.int _ k, .int _ a, .int _ b, .int _ x, .int _ y, .bool t, .int _ g] => (k, (a, b), (x, y), t, g)
  | _ => (0, (0, 0), (0, 0), false, 0)
theorem opened {H : Type} {enc : TypeId × Value → H} {base : Nat} (W : World)
    (v0 : Value) (d0 : DataW H) (p0 : List MemPlace) (h0 : DataW.Trod enc Try.prog W 0 (fun _ => true) true 5 v0 d0 p0) (hv0 : Value.okWide Try.prog W .any base 5 v0)
    (v1 : Value) (d1 : DataW H) (p1 : List MemPlace) (h1 : DataW.Trod enc Try.prog W 0 (fun _ => true) true 71 v1 d1 p1) (hv1 : Value.okWide Try.prog W .any base 71 v1) :
    Calls Try.prog 8 #[v0, v1] W fun e W' => e = .returned (.bool true) ∧ Below W.heap.size W W' := by
  obtain ⟨cells, rfl, rfl, rfl, w_cells⟩ := open_int Try.underlying5 hv0 h0
  replace w_cells := Go.Ev.wf_u8 w_cells
  obtain ⟨a_L, len_L, cap_L, rfl⟩ := okWide_slice Try.underlying71 hv1
  obtain ⟨fu_L, hf_L⟩ := h1
  obtain ⟨L, rfl, hc_L, hm_L, hG_L, hr_L⟩ := Go.Ev.open_list (sz := 7) decA encA3 (fun x => 0 ≤ x.1 ∧ okI x.2.2.2.2) Try.underlying71 (by kernel_rfl) (by decide) hf_L (fun f c y hy _ => by
      have fit := Go.Ev.open_flat 9 f 75 c y [.int .u8, .int .i64, .int .i64, .int .i64, .int .i64, .bool, .int .i64] hy (by kernel_rfl)
      obtain ⟨x0, _, rfl, w_x0, fit⟩ := fit
      obtain ⟨x1, _, rfl, w_x1, fit⟩ := fit
      obtain ⟨x2, _, rfl, w_x2, fit⟩ := fit
      obtain ⟨x3, _, rfl, w_x3, fit⟩ := fit
      obtain ⟨x4, _, rfl, w_x4, fit⟩ := fit
      obtain ⟨x5, _, rfl, fit⟩ := fit
      obtain ⟨x6, _, rfl, w_x6, fit⟩ := fit
      obtain rfl : _ = [] := fit
      exact ⟨rfl, ⟨(Go.Ev.wf_u8 w_x0).1, Go.Ev.wf_i64 w_x6⟩⟩)
  replace hm_L : cap_L ≤ 9223372036854775807 := by unfold maxLen at hm_L; omega
  exact (Go.Ev.lawObjectGone w_cells.1 w_cells.2 (by omega) hr_L hG_L W (Sat.start W)).mono fun e W' ⟨he, hs⟩ => ⟨he, hs.below⟩
theorem own : ownKnob Try.prog.godebug = none := by kernel_rfl
theorem laidOut : laidOutB Try.prog = true := by kernel_rfl
set_option maxRecDepth 100000 in
theorem lifted (os : Os) (started : os.Started) (H : Type) (enc : TypeId × Value → H) :
    ReturnsInHanded {} Try.checked os 8 .any (Rows.objectGoneSpec.pre6 enc Try.prog Try.f8 Rows.objectGoneRow.domain false) (Rows.objectGoneSpec.post enc Try.prog Try.f8 false true false false) := by
  refine returnsInHanded_of_change (C := Try.checked) own started (by kernel_rfl) Try.func8
    (ChangeSpec.witness6 (enc := enc) (C := Try.checked) false ⟨#[], #[.int .u8 0, .slice none 0 0], []⟩ 8 (by kernel_rfl) (by kernel_rfl) (by kernel_rfl) (by kernel_rfl)) ?_
  intro W base args ds gs before hval0 hW hcnd _
  have hval : ∀ (j : Nat) t v, Try.f8.params[j]? = some t → args[j]? = some v → Value.okWide Try.prog W .any base t v := hval0
  have hW' := hW
  obtain ⟨p, q, hA0, hV, rfl, hfz, hnd⟩ := hW
  have hA : DataW.TrodAll enc Try.prog W 0 (fun _ => true) true Try.f8.params.toList args.toList ds p := hA0
  rw [Try.params8] at hA hval
  obtain ⟨v0, vs0, d0, ds0, p0, q0, hargs, rfl, rfl, h0, r0⟩ := trodAll_cons hA
  obtain ⟨v1, vs1, d1, ds1, p1, q1, rfl, rfl, rfl, h1, r1⟩ := trodAll_cons r0
  obtain ⟨rfl, rfl, rfl⟩ := trodAll_nil r1
  obtain rfl : args = #[v0, v1] := by cases args; simp_all
  obtain ⟨rfl, rfl⟩ := trodVars_none hV
  have lt0 : ∀ x ∈ p0, x.block < W.heap.size := by obtain ⟨m, hm⟩ := h0; exact DataW.trod_lt m _ _ _ hm
  have lt1 : ∀ x ∈ p1, x.block < W.heap.size := by obtain ⟨m, hm⟩ := h1; exact DataW.trod_lt m _ _ _ hm
  clear hA0 hval0
  refine (opened W v0 d0 p0 h0 (hval 0 5 v0 rfl rfl) v1 d1 p1 h1 (hval 1 71 v1 rfl rfl)).mono fun e W' ⟨he, bel⟩ => ?_
  subst he
  exact ⟨_, rfl, _, _, _, [], _, [], hW', trodAll_mk1 (shut_bool Try.underlying4 _), (trodAll_cons_mk (Below.trod laidOut (by kernel_rfl) (of_decide_eq_true (by kernel_rfl)) h0 bel lt0) (trodAll_cons_mk (Below.trod laidOut (by kernel_rfl) (of_decide_eq_true (by kernel_rfl)) h1 bel lt1) trodAll_mk0)), rfl, bel.frame _, fun h => by cases h⟩
theorem over : Rows.objectGoneRow.holds Try.pinned (OpenSpec.ofChange Rows.objectGoneSpec) :=
  OpenClaim.holds_of_wide 8 Try.f8 rfl rfl rfl rfl rfl rfl rfl ⟨rfl, rfl, rfl, rfl, rfl⟩ rfl rfl rfl rfl rfl (by kernel_rfl) Try.func8 (by kernel_rfl)
    (of_decide_eq_true (by kernel_rfl)) (by unfold Func.isWrapper; first | (rw [if_pos (by decide +kernel)]; kernel_rfl) | (rw [if_neg (by decide +kernel)]; exact ⟨rfl, rfl⟩))
    (fun os started H enc _ => lifted os started H enc)
theorem proved : Rows.ObjectGoneSaid := over
#print axioms proved
end Go.Proofs.Ytfhfpklefgjeoaa.objectGone
