/-
  No cell of these rows narrows 'for every input' (looked for: loops, veiled, ifaces, maps, wideKeys, modest, calm, conditions, laid).
  DERIVED. THE GIVEN ROWS OF THIS SEAT. 3 by the template 'for every input the law returns true; each argument reads behind the call as it read before'; 0 by the template 'total and deterministic' (their statements: YtdoafnbffgkgoaaTotals.lean).
  GIVEN WITH THE SEED: the statements are not yours to turn. If you find one false, say at which input.
  Laid BY PROGRAM, IN A SANDBOX (cutbox-rows.mjs): the forced cells as the released guide's own fill.sh prints them over the translation fcd17a2985af8164… (all of the seat's roots in one cut). By AI agents, Wed Nov 11 2026. No macro, syntax, notation, axiom, sorry.
-/
import Derived.Test.YtdoafnbffgkgoaaChecked
import GoSem.Claim
import GoSem.ClaimJoined
import GoSem.ClaimMapViews
import Derived.JoinedTies
import Derived.KernelRfl
namespace Go.Proofs.Ytdoafnbffgkgoaa
/- THE CELL 'sum', in the pinned program and in every row, IS THE sha256 OF THE DUMP (.gsa) THAT YtdoafnbffgkgoaaProg.lean LOADS. Nothing in Lean hashes anything: it is a label: what it is worth is what the hold of that sum in a sandbox is worth. -/
noncomputable def Try.pinned : Pinned := { name := "ytdoafnbffgkgoaa", sum := "fcd17a2985af81648235e4527b55e32c9628372b30728884096f774455fa2c65", checked := Try.checked }
namespace Rows
def none {H : Type} : Left H := { results := [], args := [] }

/-- 'trunnellaw17.PolicyYields': WHATEVER THE INPUT: true; the input reads as it did. -/
def policyYieldsSpec : ChangeSpec := { name := "policyYields", fn := fun _ => fun
  | [d1, d2, d3] => { results := [.lit (.bool true)], args := [d1, d2, d3] }
  | _ => none }
def policyYieldsRow : OpenClaim := { program := "ytdoafnbffgkgoaa", sum := "fcd17a2985af81648235e4527b55e32c9628372b30728884096f774455fa2c65", func := "trunnel/trunnellaw17.PolicyYields", spec := "policyYields", unfollowed := true, recurses := true, apart := false }
def PolicyYieldsSaid : Prop := policyYieldsRow.holds Try.pinned (OpenSpec.ofChange policyYieldsSpec)

/-- ITS FALSE NEIGHBOUR: 'it returns false'. Refute it at one input. -/
def policyYieldsWrong : ChangeSpec := { name := "policyYields", fn := fun _ => fun
  | [d1, d2, d3] => { results := [.lit (.bool false)], args := [d1, d2, d3] }
  | _ => none }
def PolicyYieldsWrongFalsely : Prop := policyYieldsRow.holds Try.pinned (OpenSpec.ofChange policyYieldsWrong)

/-- 'trunnellaw17.PolicyNames': WHATEVER THE INPUT: true; the input reads as it did. -/
def policyNamesSpec : ChangeSpec := { name := "policyNames", fn := fun _ => fun
  | [d1, d2] => { results := [.lit (.bool true)], args := [d1, d2] }
  | _ => none }
def policyNamesRow : OpenClaim := { program := "ytdoafnbffgkgoaa", sum := "fcd17a2985af81648235e4527b55e32c9628372b30728884096f774455fa2c65", func := "trunnel/trunnellaw17.PolicyNames", spec := "policyNames", unfollowed := true, recurses := true, apart := false }
def PolicyNamesSaid : Prop := policyNamesRow.holds Try.pinned (OpenSpec.ofChange policyNamesSpec)

/-- ITS FALSE NEIGHBOUR: 'it returns false'. Refute it at one input. -/
def policyNamesWrong : ChangeSpec := { name := "policyNames", fn := fun _ => fun
  | [d1, d2] => { results := [.lit (.bool false)], args := [d1, d2] }
  | _ => none }
def PolicyNamesWrongFalsely : Prop := policyNamesRow.holds Try.pinned (OpenSpec.ofChange policyNamesWrong)

/-- 'trunnellaw17.PolicyOne': WHATEVER THE INPUT: true; the input reads as it did. -/
def policyOneSpec : ChangeSpec := { name := "policyOne", fn := fun _ => fun
  | [d1, d2, d3] => { results := [.lit (.bool true)], args := [d1, d2, d3] }
  | _ => none }
def policyOneRow : OpenClaim := { program := "ytdoafnbffgkgoaa", sum := "fcd17a2985af81648235e4527b55e32c9628372b30728884096f774455fa2c65", func := "trunnel/trunnellaw17.PolicyOne", spec := "policyOne", unfollowed := true, recurses := true, apart := false }
def PolicyOneSaid : Prop := policyOneRow.holds Try.pinned (OpenSpec.ofChange policyOneSpec)

/-- ITS FALSE NEIGHBOUR: 'it returns false'. Refute it at one input. -/
def policyOneWrong : ChangeSpec := { name := "policyOne", fn := fun _ => fun
  | [d1, d2, d3] => { results := [.lit (.bool false)], args := [d1, d2, d3] }
  | _ => none }
def PolicyOneWrongFalsely : Prop := policyOneRow.holds Try.pinned (OpenSpec.ofChange policyOneWrong)

/- THE SECOND FORM. 'bulk': how many values and letters a reading holds, each counted each time it is reached (what is shared counts as often as it is met; a slice's spare places count too). A statement '..UptoSaid' is the law's where the arguments, and the package variables that the reading takes, are together of bulk at most 1048576: NARROWER than '..Said'. Prove '..Said' where nothing that the law and all that it calls make is longer than what came in: it says more and counts as full. Else prove '..UptoSaid'. A law counts once. -/
mutual
def uptoBulk {H : Type} : DataW H → Nat
  | .lit (.string bytes) => bytes.length + 1
  | .lit _ => 1
  | .nil => 1
  | .ptr d => uptoBulk d + 1
  | .slice elems spare => uptoBulkAll elems + uptoBulkAll spare + 1
  | .agg parts => uptoBulkAll parts + 1
  | .iface _ d => uptoBulk d + 1
  | .map entries => uptoBulkEntries entries + 1
  | .held _ => 1
def uptoBulkAll {H : Type} : List (DataW H) → Nat
  | [] => 0
  | d :: r => uptoBulk d + uptoBulkAll r
def uptoBulkEntries {H : Type} : List (Lit × DataW H) → Nat
  | [] => 0
  | x :: r => uptoBulkEntry x + uptoBulkEntries r
def uptoBulkEntry {H : Type} : Lit × DataW H → Nat
  | (.string bytes, d) => bytes.length + uptoBulk d + 1
  | (_, d) => uptoBulk d + 1
 end
def uptoSmall : (H : Type) → List (DataW H) → Bool := fun _ ds => decide (uptoBulkAll ds ≤ 1048576)
def OpenSpec.upto (s : _root_.Go.ChangeSpec) : _root_.Go.OpenSpec := { _root_.Go.OpenSpec.ofChange s with cond := some uptoSmall }

/-- 'trunnellaw17.PolicyYields', WHERE WHAT IT READS IS OF BULK AT MOST 1048576: true; the input reads as it did. -/
def policyYieldsUptoRow : OpenClaim := { program := "ytdoafnbffgkgoaa", sum := "fcd17a2985af81648235e4527b55e32c9628372b30728884096f774455fa2c65", func := "trunnel/trunnellaw17.PolicyYields", spec := "policyYields", unfollowed := true, recurses := true, apart := false, narrowed := true }
def PolicyYieldsUptoSaid : Prop := policyYieldsUptoRow.holds Try.pinned (OpenSpec.upto policyYieldsSpec)

/-- 'trunnellaw17.PolicyNames', WHERE WHAT IT READS IS OF BULK AT MOST 1048576: true; the input reads as it did. -/
def policyNamesUptoRow : OpenClaim := { program := "ytdoafnbffgkgoaa", sum := "fcd17a2985af81648235e4527b55e32c9628372b30728884096f774455fa2c65", func := "trunnel/trunnellaw17.PolicyNames", spec := "policyNames", unfollowed := true, recurses := true, apart := false, narrowed := true }
def PolicyNamesUptoSaid : Prop := policyNamesUptoRow.holds Try.pinned (OpenSpec.upto policyNamesSpec)

/-- 'trunnellaw17.PolicyOne', WHERE WHAT IT READS IS OF BULK AT MOST 1048576: true; the input reads as it did. -/
def policyOneUptoRow : OpenClaim := { program := "ytdoafnbffgkgoaa", sum := "fcd17a2985af81648235e4527b55e32c9628372b30728884096f774455fa2c65", func := "trunnel/trunnellaw17.PolicyOne", spec := "policyOne", unfollowed := true, recurses := true, apart := false, narrowed := true }
def PolicyOneUptoSaid : Prop := policyOneUptoRow.holds Try.pinned (OpenSpec.upto policyOneSpec)

end Rows
end Go.Proofs.Ytdoafnbffgkgoaa
