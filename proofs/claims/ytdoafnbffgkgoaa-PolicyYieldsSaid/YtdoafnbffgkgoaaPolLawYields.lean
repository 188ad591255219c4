/- PolicyYields returns true for every policy, every list of sides, and every wait. Conditions: none. -/
import Derived.Test.YtdoafnbffgkgoaaRows
import Derived.Test.YtdoafnbffgkgoaaPolG
import Derived.Test.YtdoafnbffgkgoaaEvO
import Derived.WalkKit
import Derived.ProofKit
import Derived.OpenShut
import Derived.ShutString
import Derived.ChangeOld
import Derived.Below
import Derived.Carry
namespace Go.Proofs.Ytdoafnbffgkgoaa.policyYields
open Go.ChangeShapes Go.WideShapes Go.ChangeAt Go.RowKit
open Go.Ev (Sat encD)
theorem side {H : Type} {enc0 : TypeId × Value → H} {w : World} {base : Nat} {sp : Nat → Bool} {held : Bool} {f : Nat} {cs : List Value} {y : DataW H × List MemPlace} (h : DataW.trod enc0 Try.prog w base sp held f 26 cs = some y) :
    ∃ a b, cs = [.int .i64 a, .int .i64 b] ∧ (-9223372036854775808 ≤ a ∧ a < 9223372036854775808) ∧ -9223372036854775808 ≤ b ∧ b < 9223372036854775808 := by
  obtain ⟨hl, g, rfl, hf⟩ := Go.Ev.trod_fields Try.underlying26 h
  obtain ⟨y0, h0⟩ := hf 0 _ rfl
  obtain ⟨y1, h1⟩ := hf 1 _ rfl
  obtain ⟨a, ha, wa⟩ := Go.Ev.trod_int Try.underlying3 h0
  obtain ⟨b, hb, wb⟩ := Go.Ev.trod_int Try.underlying3 h1
  have hl : cs.length = 2 := hl.trans (by kernel_rfl)
  match cs, hl with
  | [c0, c1], _ =>
    have e0 : [c0] = [.int .i64 a] := ha
    have e1 : [c1] = [.int .i64 b] := hb
    simp only [List.cons.injEq, and_true] at e0 e1
    exact ⟨a, b, by rw [e0, e1], Go.Ev.wf_i64 wa, Go.Ev.wf_i64 wb⟩
def dec : List Value → Int × Int
  | [.int _ a, .int _ b] => (a, b)
  | _ => (0, 0)
theorem opened {H : Type} {enc : TypeId × Value → H} {base : Nat} (W : World) (v0 : Value) (d0 : DataW H) (p0 : List MemPlace) (h0 : DataW.Trod enc Try.prog W 0 (fun _ => true) true 22 v0 d0 p0) (hv0 : Value.okWide Try.prog W .any base 22 v0)
    (v1 : Value) (d1 : DataW H) (p1 : List MemPlace) (h1 : DataW.Trod enc Try.prog W 0 (fun _ => true) true 23 v1 d1 p1) (hv1 : Value.okWide Try.prog W .any base 23 v1)
    (v2 : Value) (d2 : DataW H) (p2 : List MemPlace) (h2 : DataW.Trod enc Try.prog W 0 (fun _ => true) true 3 v2 d2 p2) (hv2 : Value.okWide Try.prog W .any base 3 v2) :
    Calls Try.prog 3 #[v0, v1, v2] W fun e W' => e = .returned (.bool true) ∧ Below W.heap.size W W' := by
  obtain ⟨a0, rfl, rfl, rfl, w0⟩ := open_int Try.underlying22 hv0 h0
  obtain ⟨a, len, cap, rfl⟩ := okWide_slice Try.underlying23 hv1
  obtain ⟨a2, rfl, rfl, rfl, w2⟩ := open_int Try.underlying3 hv2 h2
  obtain ⟨fuel, hf⟩ := h1
  obtain ⟨l, rfl, hc, hm, _, hr⟩ := Go.Ev.open_list (sz := 2) dec encD (fun _ => True) Try.underlying23 (by kernel_rfl) (by decide) hf (fun f c y hy _ => by
    obtain ⟨p, q, rfl, _⟩ := side hy
    exact ⟨rfl, trivial⟩)
  have hm' : cap ≤ 9223372036854775807 := by unfold maxLen at hm; omega
  exact (Go.Ev.lawYields a0 a2 (by omega) hc (Go.Ev.wf_i64 w2) W W [] (Sat.start W) (hr [])).mono fun e W' ⟨he, hs⟩ => ⟨he, hs.below⟩
theorem own : ownKnob Try.prog.godebug = none := by kernel_rfl
theorem laidOut : laidOutB Try.prog = true := by kernel_rfl
set_option maxRecDepth 100000 in
theorem lifted (os : Os) (started : os.Started) (H : Type) (enc : TypeId × Value → H) :
    ReturnsInHanded {} Try.checked os 3 .any (Rows.policyYieldsSpec.pre6 enc Try.prog Try.f3 Rows.policyYieldsRow.domain false) (Rows.policyYieldsSpec.post enc Try.prog Try.f3 false true false false) := by
  refine returnsInHanded_of_change (C := Try.checked) own started (by kernel_rfl) Try.func3
    (ChangeSpec.witness6 (enc := enc) (C := Try.checked) false ⟨#[], #[.int .i64 0, .slice none 0 0, .int .i64 0], []⟩ 8 (by kernel_rfl) (by kernel_rfl) (by kernel_rfl) (by kernel_rfl)) ?_
  intro W base args ds gs before hval0 hW hcnd _
  have hval : ∀ (j : Nat) t v, Try.f3.params[j]? = some t → args[j]? = some v → Value.okWide Try.prog W .any base t v := hval0
  have hW' := hW
  obtain ⟨p, q, hA0, hV, rfl, hfz, hnd⟩ := hW
  have hA : DataW.TrodAll enc Try.prog W 0 (fun _ => true) true Try.f3.params.toList args.toList ds p := hA0
  rw [Try.params3] at hA hval
  obtain ⟨v0, vs0, d0, ds0, p0, q0, hargs, rfl, rfl, h0, r0⟩ := trodAll_cons hA
  obtain ⟨v1, vs1, d1, ds1, p1, q1, rfl, rfl, rfl, h1, r1⟩ := trodAll_cons r0
  obtain ⟨v2, vs2, d2, ds2, p2, q2, rfl, rfl, rfl, h2, r2⟩ := trodAll_cons r1
  obtain ⟨rfl, rfl, rfl⟩ := trodAll_nil r2
  obtain rfl : args = #[v0, v1, v2] := by cases args; simp_all
  obtain ⟨rfl, rfl⟩ := trodVars_none hV
  have lt0 : ∀ x ∈ p0, x.block < W.heap.size := by obtain ⟨m, hm⟩ := h0; exact DataW.trod_lt m _ _ _ hm
  have lt1 : ∀ x ∈ p1, x.block < W.heap.size := by obtain ⟨m, hm⟩ := h1; exact DataW.trod_lt m _ _ _ hm
  have lt2 : ∀ x ∈ p2, x.block < W.heap.size := by obtain ⟨m, hm⟩ := h2; exact DataW.trod_lt m _ _ _ hm
  clear hA0 hval0
  refine (opened W v0 d0 p0 h0 (hval 0 22 v0 rfl rfl) v1 d1 p1 h1 (hval 1 23 v1 rfl rfl) v2 d2 p2 h2 (hval 2 3 v2 rfl rfl)).mono fun e W' ⟨he, bel⟩ => ?_
  subst he
  exact ⟨_, rfl, _, _, _, [], _, [], hW', trodAll_mk1 (shut_bool Try.underlying4 _), (trodAll_cons_mk (Below.trod laidOut (by kernel_rfl) (of_decide_eq_true (by kernel_rfl)) h0 bel lt0) (trodAll_cons_mk (Below.trod laidOut (by kernel_rfl) (of_decide_eq_true (by kernel_rfl)) h1 bel lt1) (trodAll_cons_mk (Below.trod laidOut (by kernel_rfl) (of_decide_eq_true (by kernel_rfl)) h2 bel lt2) trodAll_mk0))), rfl, bel.frame _, fun h => by cases h⟩
theorem over : Rows.policyYieldsRow.holds Try.pinned (OpenSpec.ofChange Rows.policyYieldsSpec) :=
  OpenClaim.holds_of_wide 3 Try.f3 rfl rfl rfl rfl rfl rfl rfl ⟨rfl, rfl, rfl, rfl, rfl⟩ rfl rfl rfl rfl rfl (by kernel_rfl) Try.func3 (by kernel_rfl)
    (of_decide_eq_true (by kernel_rfl)) (by unfold Func.isWrapper; first | (rw [if_pos (by decide +kernel)]; kernel_rfl) | (rw [if_neg (by decide +kernel)]; exact ⟨rfl, rfl⟩))
    (fun os started H enc _ => lifted os started H enc)
theorem proved : Rows.PolicyYieldsSaid := over
#print axioms proved
end Go.Proofs.Ytdoafnbffgkgoaa.policyYields
