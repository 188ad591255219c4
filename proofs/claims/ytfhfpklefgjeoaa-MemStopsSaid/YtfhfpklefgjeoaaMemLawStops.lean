/- MemStops returns true for all numbers, accesses, and acts. Conditions: none. -/
import Derived.Test.YtfhfpklefgjeoaaRows
import Derived.Test.YtfhfpklefgjeoaaMemF
import Derived.Test.YtfhfpklefgjeoaaEvO
import Derived.WalkKit
import Derived.ProofKit
import Derived.OpenShut
import Derived.ShutString
import Derived.ChangeOld
import Derived.Below
import Derived.Carry
namespace Go.Proofs.Ytfhfpklefgjeoaa.memStops
open Go.ChangeShapes Go.WideShapes Go.ChangeAt Go.RowKit
open Go.Ev (Sat encN encA2 Num Act2)
set_option maxRecDepth 100000
theorem numC {H : Type} {enc0 : TypeId × Value → H} {w : World} {base : Nat} {sp : Nat → Bool} {held : Bool} {f : Nat} {cs : List Value} {y : DataW H × List MemPlace} (h : DataW.trod enc0 Try.prog w base sp held f 33 cs = some y) :
    ∃ a b, cs = [.int .i64 a, .int .i64 b] ∧ Go.Ev.okI a ∧ Go.Ev.okI b := by
  obtain ⟨hl, g, rfl, hf⟩ := Go.Ev.trod_fields Try.underlying33 h
  obtain ⟨y0, h0⟩ := hf 0 _ rfl
  obtain ⟨y1, h1⟩ := hf 1 _ rfl
  obtain ⟨a, ha, wa⟩ := Go.Ev.trod_int Try.underlying3 h0
  obtain ⟨b, hb, wb⟩ := Go.Ev.trod_int Try.underlying3 h1
  have hl : cs.length = 2 := hl.trans (by kernel_rfl)
  match cs, hl with
  | [c0, c1], _ =>
    have e0 : [c0] = [.int .i64 a] := ha
    have e1 : [c1] = [.int .i64 b] := hb
    simp only [List.cons.injEq, and_true] at e0 e1
    exact ⟨a, b, by rw [e0, e1], Go.Ev.wf_i64 wa, Go.Ev.wf_i64 wb⟩
def decN : List Value → Num
  | [.int _ a, .int _ b] => (a, b)
  | _ => (0, 0)
theorem actC {H : Type} {enc0 : TypeId × Value → H} {w : World} {base : Nat} {sp : Nat → Bool} {held : Bool} {f : Nat} {cs : List Value} {y : DataW H × List MemPlace} (h : DataW.trod enc0 Try.prog w base sp held f 35 cs = some y) :
    ∃ b i x y, cs = [.bool b, .int .i64 i, .int .i64 x, .int .i64 y] := by
  obtain ⟨hl, g, rfl, hf⟩ := Go.Ev.trod_fields Try.underlying35 h
  obtain ⟨y0, h0⟩ := hf 0 _ rfl
  obtain ⟨y1, h1⟩ := hf 1 _ rfl
  obtain ⟨y2, h2⟩ := hf 2 _ rfl
  obtain ⟨b, hb⟩ := Go.Ev.trod_bool Try.underlying4 h0
  obtain ⟨i, hi, _⟩ := Go.Ev.trod_int Try.underlying3 h1
  obtain ⟨x, y, hx, _⟩ := numC h2
  have hl : cs.length = 4 := hl.trans (by kernel_rfl)
  match cs, hl with
  | [c0, c1, c2, c3], _ =>
    have e0 : [c0] = [.bool b] := hb
    have e1 : [c1] = [.int .i64 i] := hi
    have e2 : [c2, c3] = [.int .i64 x, .int .i64 y] := hx
    simp only [List.cons.injEq, and_true] at e0 e1 e2
    exact ⟨b, i, x, y, by rw [e0, e1, e2.1, e2.2]⟩
def decA : List Value → Act2
  | [.bool b, .int _ i, .int _ x, .int _ y] => (b, i, x, y)
  | _ => (false, 0, 0, 0)
theorem opened {H : Type} {enc : TypeId × Value → H} {base : Nat} (W : World) (v0 : Value) (d0 : DataW H) (p0 : List MemPlace) (h0 : DataW.Trod enc Try.prog W 0 (fun _ => true) true 22 v0 d0 p0) (hv0 : Value.okWide Try.prog W .any base 22 v0)
    (v1 : Value) (d1 : DataW H) (p1 : List MemPlace) (h1 : DataW.Trod enc Try.prog W 0 (fun _ => true) true 3 v1 d1 p1) (hv1 : Value.okWide Try.prog W .any base 3 v1)
    (v2 : Value) (d2 : DataW H) (p2 : List MemPlace) (h2 : DataW.Trod enc Try.prog W 0 (fun _ => true) true 23 v2 d2 p2) (hv2 : Value.okWide Try.prog W .any base 23 v2) :
    Calls Try.prog 3 #[v0, v1, v2] W fun e W' => e = .returned (.bool true) ∧ Below W.heap.size W W' := by
  obtain ⟨a, len, cap, rfl⟩ := okWide_slice Try.underlying22 hv0
  obtain ⟨n, rfl, rfl, rfl, wn⟩ := open_int Try.underlying3 hv1 h1
  obtain ⟨a2, len2, cap2, rfl⟩ := okWide_slice Try.underlying23 hv2
  obtain ⟨fuel, hf⟩ := h0
  obtain ⟨l, rfl, hc, hm, _, hr⟩ := Go.Ev.open_list (sz := 2) decN encN (fun _ => True) Try.underlying22 (by kernel_rfl) (by decide) hf (fun f c y hy _ => by
    obtain ⟨p, q, rfl, _⟩ := numC hy
    exact ⟨rfl, trivial⟩)
  obtain ⟨fuel2, hf2⟩ := h2
  obtain ⟨L, rfl, hc2, hm2, _, hr2⟩ := Go.Ev.open_list (sz := 4) decA encA2 (fun _ => True) Try.underlying23 (by kernel_rfl) (by decide) hf2 (fun f c y hy _ => by
    obtain ⟨b, i, x, y, rfl⟩ := actC hy
    exact ⟨rfl, trivial⟩)
  have hm' : cap ≤ 9223372036854775807 := by unfold maxLen at hm; omega
  have hm2' : cap2 ≤ 9223372036854775807 := by unfold maxLen at hm2; omega
  exact (Go.Ev.lawMemStops (Go.Ev.wf_i64 wn) (by omega) hr (by omega) hr2 W (Sat.start W)).mono fun e W' ⟨he, hs⟩ => ⟨he, hs.below⟩
theorem own : ownKnob Try.prog.godebug = none := by kernel_rfl
theorem laidOut : laidOutB Try.prog = true := by kernel_rfl
set_option maxRecDepth 100000 in
theorem lifted (os : Os) (started : os.Started) (H : Type) (enc : TypeId × Value → H) :
    ReturnsInHanded {} Try.checked os 3 .any (Rows.memStopsSpec.pre6 enc Try.prog Try.f3 Rows.memStopsRow.domain false) (Rows.memStopsSpec.post enc Try.prog Try.f3 false true false false) := by
  refine returnsInHanded_of_change (C := Try.checked) own started (by kernel_rfl) Try.func3
    (ChangeSpec.witness6 (enc := enc) (C := Try.checked) false ⟨#[], #[.slice none 0 0, .int .i64 0, .slice none 0 0], []⟩ 8 (by kernel_rfl) (by kernel_rfl) (by kernel_rfl) (by kernel_rfl)) ?_
  intro W base args ds gs before hval0 hW hcnd _
  have hval : ∀ (j : Nat) t v, Try.f3.params[j]? = some t → args[j]? = some v → Value.okWide Try.prog W .any base t v := hval0
  have hW' := hW
  obtain ⟨p, q, hA0, hV, rfl, hfz, hnd⟩ := hW
  have hA : DataW.TrodAll enc Try.prog W 0 (fun _ => true) true Try.f3.params.toList args.toList ds p := hA0
  rw [Try.params3] at hA hval
  obtain ⟨v0, vs0, d0, ds0, p0, q0, hargs, rfl, rfl, h0, r0⟩ := trodAll_cons hA
  obtain ⟨v1, vs1, d1, ds1, p1, q1, rfl, rfl, rfl, h1, r1⟩ := trodAll_cons r0
  obtain ⟨v2, vs2, d2, ds2, p2, q2, rfl, rfl, rfl, h2, r2⟩ := trodAll_cons r1
  obtain ⟨rfl, rfl, rfl⟩ := trodAll_nil r2
  obtain rfl : args = #[v0, v1, v2] := by cases args; simp_all
  obtain ⟨rfl, rfl⟩ := trodVars_none hV
  have lt0 : ∀ x ∈ p0, x.block < W.heap.size := by obtain ⟨m, hm⟩ := h0; exact DataW.trod_lt m _ _ _ hm
  have lt1 : ∀ x ∈ p1, x.block < W.heap.size := by obtain ⟨m, hm⟩ := h1; exact DataW.trod_lt m _ _ _ hm
  have lt2 : ∀ x ∈ p2, x.block < W.heap.size := by obtain ⟨m, hm⟩ := h2; exact DataW.trod_lt m _ _ _ hm
  clear hA0 hval0
  refine (opened W v0 d0 p0 h0 (hval 0 22 v0 rfl rfl) v1 d1 p1 h1 (hval 1 3 v1 rfl rfl) v2 d2 p2 h2 (hval 2 23 v2 rfl rfl)).mono fun e W' ⟨he, bel⟩ => ?_
  subst he
  exact ⟨_, rfl, _, _, _, [], _, [], hW', trodAll_mk1 (shut_bool Try.underlying4 _), (trodAll_cons_mk (Below.trod laidOut (by kernel_rfl) (of_decide_eq_true (by kernel_rfl)) h0 bel lt0) (trodAll_cons_mk (Below.trod laidOut (by kernel_rfl) (of_decide_eq_true (by kernel_rfl)) h1 bel lt1) (trodAll_cons_mk (Below.trod laidOut (by kernel_rfl) (of_decide_eq_true (by kernel_rfl)) h2 bel lt2) trodAll_mk0))), rfl, bel.frame _, fun h => by cases h⟩
theorem over : Rows.memStopsRow.holds Try.pinned (OpenSpec.ofChange Rows.memStopsSpec) :=
  OpenClaim.holds_of_wide 3 Try.f3 rfl rfl rfl rfl rfl rfl rfl ⟨rfl, rfl, rfl, rfl, rfl⟩ rfl rfl rfl rfl rfl (by kernel_rfl) Try.func3 (by kernel_rfl)
    (of_decide_eq_true (by kernel_rfl)) (by unfold Func.isWrapper; first | (rw [if_pos (by decide +kernel)]; kernel_rfl) | (rw [if_neg (by decide +kernel)]; exact ⟨rfl, rfl⟩))
    (fun os started H enc _ => lifted os started H enc)
theorem proved : Rows.MemStopsSaid := over
#print axioms proved
end Go.Proofs.Ytfhfpklefgjeoaa.memStops
