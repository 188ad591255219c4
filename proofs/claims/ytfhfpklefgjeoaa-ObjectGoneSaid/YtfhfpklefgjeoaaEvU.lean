/- Small words for walks. Conditions: none. -/
import Derived.Test.YtfhfpklefgjeoaaEvT
namespace Go.Ev
open Go Go.RowKit

theorem CallF.ret {P : Program} {f : FuncId} {args : List Value} {w : World} {R : Ending → World → Prop} {K : Value → World → Prop}
    (h : Calls P f args.toArray w R) (hc : (callFunc f args.toArray).run P w = .ok (.enter f args.toArray) w) (k : ∀ e w', R e w' → ∃ v, e = .returned v ∧ K v w') : CallF P f args w K :=
  .mk hc (h.mono k)
theorem CallF.val {P : Program} {f : FuncId} {args : List Value} {w β : World} {As : List Asrt} {v : Value} {K : Value → World → Prop}
    (h : Calls P f args.toArray w fun e w' => e = .returned v ∧ Sat β w' As) (hc : (callFunc f args.toArray).run P w = .ok (.enter f args.toArray) w) (k : ∀ w', Sat β w' As → K v w') : CallF P f args w K :=
  .ret h hc (by rintro e w' ⟨rfl, hs⟩; exact ⟨_, rfl, k w' hs⟩)
theorem retB {a b : Bool} (h : a = b) : Ending.returned (.bool a) = .returned (.bool b) := by rw [h]
theorem retI {k : IntKind} {a b : Int} (h : a = b) : Ending.returned (.int k a) = .returned (.int k b) := by rw [h]
theorem vint {k : IntKind} {a b : Int} (h : a = b) : Value.int k a = .int k b := by rw [h]
theorem wr64 {n : Int} (h1 : -9223372036854775808 ≤ n) (h2 : n < 9223372036854775808) : IntKind.i64.wrap n = n := by
  have e1 : (2 : Int) ^ 64 = 18446744073709551616 := by decide
  have e2 : (2 : Int) ^ (64 - 1) = 9223372036854775808 := by decide
  simp only [IntKind.wrap, IntKind.bits, IntKind.signed, e1, e2, Bool.true_and]
  split
  · rename_i h; have := of_decide_eq_true h; omega
  · rename_i h; have : ¬ (n % 18446744073709551616 ≥ 9223372036854775808) := fun hh => h (decide_eq_true hh); omega
theorem Wr.i64 {n : Int} {K : Value → Prop} (h1 : -9223372036854775808 ≤ n) (h2 : n < 9223372036854775808) (h : K (.int .i64 n)) : Wr .i64 n K := .any (by rw [wr64 h1 h2]; exact h)
theorem wrU8 {n : Int} (h1 : 0 ≤ n) (h2 : n < 256) : IntKind.u8.wrap n = n := by
  have e1 : (2 : Int) ^ 8 = 256 := by decide
  simp only [IntKind.wrap, IntKind.bits, IntKind.signed, e1, Bool.false_and]
  simp
  omega
theorem Wr.u8 {n : Int} {K : Value → Prop} (h1 : 0 ≤ n) (h2 : n < 256) (h : K (.int .u8 n)) : Wr .u8 n K := .any (by rw [wrU8 h1 h2]; exact h)
/-- What a function comes to that owns nothing and leaves what is owned. -/
def Fn (P : Program) (f : FuncId) (args : List Value) (v : Value) : Prop := ∀ β w As, Sat β w As → Calls P f args.toArray w fun e w' => e = .returned v ∧ Sat β w' As
theorem Fn.call {P : Program} {f : FuncId} {args : List Value} {w β : World} {As : List Asrt} {v : Value} {K : Value → World → Prop} (h : Fn P f args v) (hs : Sat β w As)
    (hc : (callFunc f args.toArray).run P w = .ok (.enter f args.toArray) w) (k : ∀ w', Sat β w' As → K v w') : CallF P f args w K := .val (h β w As hs) hc k
end Go.Ev
