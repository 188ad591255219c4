/- QueueStops returns true for all numbers, accesses, and calls. Conditions: none. -/
import Derived.Test.YtfhfpklefgjeoaaRows
import Derived.Test.YtfhfpklefgjeoaaQueD
import Derived.Test.YtfhfpklefgjeoaaEvP
import Derived.WalkKit
import Derived.ProofKit
import Derived.OpenShut
import Derived.ShutString
import Derived.ChangeOld
import Derived.Below
import Derived.Carry
namespace Go.Proofs.Ytfhfpklefgjeoaa.queueStops
open Go.ChangeShapes Go.WideShapes Go.ChangeAt Go.RowKit
open Go.Ev
set_option maxRecDepth 100000
def decN : List Value → Num
  | [.int _ a, .int _ b] => (a, b)
  | _ => (0, 0)
theorem opened {H : Type} {enc : TypeId × Value → H} {base : Nat} (W : World)
    (v0 : Value) (d0 : DataW H) (p0 : List MemPlace) (h0 : DataW.Trod enc Try.prog W 0 (fun _ => true) true 22 v0 d0 p0) (hv0 : Value.okWide Try.prog W .any base 22 v0)
    (v1 : Value) (d1 : DataW H) (p1 : List MemPlace) (h1 : DataW.Trod enc Try.prog W 0 (fun _ => true) true 3 v1 d1 p1) (hv1 : Value.okWide Try.prog W .any base 3 v1)
    (v2 : Value) (d2 : DataW H) (p2 : List MemPlace) (h2 : DataW.Trod enc Try.prog W 0 (fun _ => true) true 61 v2 d2 p2) (hv2 : Value.okWide Try.prog W .any base 61 v2) :
    Calls Try.prog 12 #[v0, v1, v2] W fun e W' => e = .returned (.bool true) ∧ Below W.heap.size W W' := by
  obtain ⟨a_l, len_l, cap_l, rfl⟩ := okWide_slice Try.underlying22 hv0
  obtain ⟨fu_l, hf_l⟩ := h0
  obtain ⟨l, rfl, hc_l, hm_l, hG_l, hr_l⟩ := Go.Ev.open_list (sz := 2) decN encN (fun _ => True) Try.underlying22 (by kernel_rfl) (by decide) hf_l (fun f c y hy _ => by
      have fit := Go.Ev.open_flat 9 f 33 c y [.int .i64, .int .i64] hy (by kernel_rfl)
      obtain ⟨x0, _, rfl, w_x0, fit⟩ := fit
      obtain ⟨x1, _, rfl, w_x1, fit⟩ := fit
      obtain rfl : _ = [] := fit
      exact ⟨rfl, trivial⟩)
  replace hm_l : cap_l ≤ 9223372036854775807 := by unfold maxLen at hm_l; omega
  obtain ⟨n, rfl, rfl, rfl, w_n⟩ := open_int Try.underlying3 hv1 h1
  replace w_n := Go.Ev.wf_i64 w_n
  obtain ⟨_, rfl, fit2⟩ := Go.Ev.open_agg 9 [.int .u8, .int .i64, .int .i64, .int .i64] (by kernel_rfl) (by kernel_rfl) hv2 h2
  obtain ⟨k, _, rfl, w_k, fit2⟩ := fit2
  obtain ⟨v1, _, rfl, w_v1, fit2⟩ := fit2
  obtain ⟨v2, _, rfl, w_v2, fit2⟩ := fit2
  obtain ⟨i, _, rfl, w_i, fit2⟩ := fit2
  obtain rfl : _ = [] := fit2
  exact (Go.Ev.lawQueueStops w_n (by omega) hr_l k (v1, v2) i W (Sat.start W)).mono fun e W' ⟨he, hs⟩ => ⟨he, hs.below⟩
theorem own : ownKnob Try.prog.godebug = none := by kernel_rfl
theorem laidOut : laidOutB Try.prog = true := by kernel_rfl
set_option maxRecDepth 100000 in
theorem lifted (os : Os) (started : os.Started) (H : Type) (enc : TypeId × Value → H) :
    ReturnsInHanded {} Try.checked os 12 .any (Rows.queueStopsSpec.pre6 enc Try.prog Try.f12 Rows.queueStopsRow.domain false) (Rows.queueStopsSpec.post enc Try.prog Try.f12 false true false false) := by
  refine returnsInHanded_of_change (C := Try.checked) own started (by kernel_rfl) Try.func12
    (ChangeSpec.witness6 (enc := enc) (C := Try.checked) false ⟨#[], #[.slice none 0 0, .int .i64 0, .agg #[.int .u8 0, .int .i64 0, .int .i64 0, .int .i64 0]], []⟩ 8 (by kernel_rfl) (by kernel_rfl) (by kernel_rfl) (by kernel_rfl)) ?_
  intro W base args ds gs before hval0 hW hcnd _
  have hval : ∀ (j : Nat) t v, Try.f12.params[j]? = some t → args[j]? = some v → Value.okWide Try.prog W .any base t v := hval0
  have hW' := hW
  obtain ⟨p, q, hA0, hV, rfl, hfz, hnd⟩ := hW
  have hA : DataW.TrodAll enc Try.prog W 0 (fun _ => true) true Try.f12.params.toList args.toList ds p := hA0
  rw [Try.params12] at hA hval
  obtain ⟨v0, vs0, d0, ds0, p0, q0, hargs, rfl, rfl, h0, r0⟩ := trodAll_cons hA
  obtain ⟨v1, vs1, d1, ds1, p1, q1, rfl, rfl, rfl, h1, r1⟩ := trodAll_cons r0
  obtain ⟨v2, vs2, d2, ds2, p2, q2, rfl, rfl, rfl, h2, r2⟩ := trodAll_cons r1
  obtain ⟨rfl, rfl, rfl⟩ := trodAll_nil r2
  obtain rfl : args = #[v0, v1, v2] := by cases args; simp_all
  obtain ⟨rfl, rfl⟩ := trodVars_none hV
  have lt0 : ∀ x ∈ p0, x.block < W.heap.size := by obtain ⟨m, hm⟩ := h0; exact DataW.trod_lt m _ _ _ hm
  have lt1 : ∀ x ∈ p1, x.block < W.heap.size := by obtain ⟨m, hm⟩ := h1; exact DataW.trod_lt m _ _ _ hm
  have lt2 : ∀ x ∈ p2, x.block < W.heap.size := by obtain ⟨m, hm⟩ := h2; exact DataW.trod_lt m _ _ _ hm
  clear hA0 hval0
  refine (opened W v0 d0 p0 h0 (hval 0 22 v0 rfl rfl) v1 d1 p1 h1 (hval 1 3 v1 rfl rfl) v2 d2 p2 h2 (hval 2 61 v2 rfl rfl)).mono fun e W' ⟨he, bel⟩ => ?_
  subst he
  exact ⟨_, rfl, _, _, _, [], _, [], hW', trodAll_mk1 (shut_bool Try.underlying4 _), (trodAll_cons_mk (Below.trod laidOut (by kernel_rfl) (of_decide_eq_true (by kernel_rfl)) h0 bel lt0) (trodAll_cons_mk (Below.trod laidOut (by kernel_rfl) (of_decide_eq_true (by kernel_rfl)) h1 bel lt1) (trodAll_cons_mk (Below.trod laidOut (by kernel_rfl) (of_decide_eq_true (by kernel_rfl)) h2 bel lt2) trodAll_mk0))), rfl, bel.frame _, fun h => by cases h⟩
theorem over : Rows.queueStopsRow.holds Try.pinned (OpenSpec.ofChange Rows.queueStopsSpec) :=
  OpenClaim.holds_of_wide 12 Try.f12 rfl rfl rfl rfl rfl rfl rfl ⟨rfl, rfl, rfl, rfl, rfl⟩ rfl rfl rfl rfl rfl (by kernel_rfl) Try.func12 (by kernel_rfl)
    (of_decide_eq_true (by kernel_rfl)) (by unfold Func.isWrapper; first | (rw [if_pos (by decide +kernel)]; kernel_rfl) | (rw [if_neg (by decide +kernel)]; exact ⟨rfl, rfl⟩))
    (fun os started H enc _ => lifted os started H enc)
theorem proved : Rows.QueueStopsSaid := over
#print axioms proved
end Go.Proofs.Ytfhfpklefgjeoaa.queueStops
