/-
  No cell of these rows narrows 'for every input' (looked for: loops, veiled, ifaces, maps, wideKeys, modest, calm, conditions, laid).
  DERIVED. THE GIVEN ROWS OF THIS SEAT. 11 by the template 'for every input the law returns true; each argument reads behind the call as it read before'; 0 by the template 'total and deterministic' (their statements: YtfhfpklefgjeoaaTotals.lean).
  GIVEN WITH THE SEED: the statements are not yours to turn. If you find one false, say at which input.
  Laid BY PROGRAM, IN A SANDBOX (cutbox-rows.mjs): the forced cells as the released guide's own fill.sh prints them over the translation 05febfc5e3256887… (all of the seat's roots in one cut). By AI agents, Wed Nov 11 2026. No macro, syntax, notation, axiom, sorry.
-/
import Derived.Test.YtfhfpklefgjeoaaChecked
import GoSem.Claim
import GoSem.ClaimJoined
import GoSem.ClaimMapViews
import Derived.JoinedTies
import Derived.KernelRfl
namespace Go.Proofs.Ytfhfpklefgjeoaa
/- THE CELL 'sum', in the pinned program and in every row, IS THE sha256 OF THE DUMP (.gsa) THAT YtfhfpklefgjeoaaProg.lean LOADS. Nothing in Lean hashes anything: it is a label: what it is worth is what the hold of that sum in a sandbox is worth. -/
noncomputable def Try.pinned : Pinned := { name := "ytfhfpklefgjeoaa", sum := "05febfc5e3256887239a2efba1d16dfc7aca6411dc417a34e3b2821c8a0017e2", checked := Try.checked }
namespace Rows
def none {H : Type} : Left H := { results := [], args := [] }

/-- 'trunnellaw02.MemStops': WHATEVER THE INPUT: true; the input reads as it did. -/
def memStopsSpec : ChangeSpec := { name := "memStops", fn := fun _ => fun
  | [d1, d2, d3] => { results := [.lit (.bool true)], args := [d1, d2, d3] }
  | _ => none }
def memStopsRow : OpenClaim := { program := "ytfhfpklefgjeoaa", sum := "05febfc5e3256887239a2efba1d16dfc7aca6411dc417a34e3b2821c8a0017e2", func := "trunnel/trunnellaw02.MemStops", spec := "memStops", unfollowed := true, recurses := true, apart := false }
def MemStopsSaid : Prop := memStopsRow.holds Try.pinned (OpenSpec.ofChange memStopsSpec)

/-- ITS FALSE NEIGHBOUR: 'it returns false'. Refute it at one input. -/
def memStopsWrong : ChangeSpec := { name := "memStops", fn := fun _ => fun
  | [d1, d2, d3] => { results := [.lit (.bool false)], args := [d1, d2, d3] }
  | _ => none }
def MemStopsWrongFalsely : Prop := memStopsRow.holds Try.pinned (OpenSpec.ofChange memStopsWrong)

/-- 'trunnellaw02.MemPlays': WHATEVER THE INPUT: true; the input reads as it did. -/
def memPlaysSpec : ChangeSpec := { name := "memPlays", fn := fun _ => fun
  | [d1, d2, d3] => { results := [.lit (.bool true)], args := [d1, d2, d3] }
  | _ => none }
def memPlaysRow : OpenClaim := { program := "ytfhfpklefgjeoaa", sum := "05febfc5e3256887239a2efba1d16dfc7aca6411dc417a34e3b2821c8a0017e2", func := "trunnel/trunnellaw02.MemPlays", spec := "memPlays", unfollowed := true, recurses := true, apart := false }
def MemPlaysSaid : Prop := memPlaysRow.holds Try.pinned (OpenSpec.ofChange memPlaysSpec)

/-- ITS FALSE NEIGHBOUR: 'it returns false'. Refute it at one input. -/
def memPlaysWrong : ChangeSpec := { name := "memPlays", fn := fun _ => fun
  | [d1, d2, d3] => { results := [.lit (.bool false)], args := [d1, d2, d3] }
  | _ => none }
def MemPlaysWrongFalsely : Prop := memPlaysRow.holds Try.pinned (OpenSpec.ofChange memPlaysWrong)

/-- 'trunnellaw04.CounterSums': WHATEVER THE INPUT: true; the input reads as it did. -/
def counterSumsSpec : ChangeSpec := { name := "counterSums", fn := fun _ => fun
  | [d1, d2, d3] => { results := [.lit (.bool true)], args := [d1, d2, d3] }
  | _ => none }
def counterSumsRow : OpenClaim := { program := "ytfhfpklefgjeoaa", sum := "05febfc5e3256887239a2efba1d16dfc7aca6411dc417a34e3b2821c8a0017e2", func := "trunnel/trunnellaw04.CounterSums", spec := "counterSums", unfollowed := true, recurses := true, apart := false }
def CounterSumsSaid : Prop := counterSumsRow.holds Try.pinned (OpenSpec.ofChange counterSumsSpec)

/-- ITS FALSE NEIGHBOUR: 'it returns false'. Refute it at one input. -/
def counterSumsWrong : ChangeSpec := { name := "counterSums", fn := fun _ => fun
  | [d1, d2, d3] => { results := [.lit (.bool false)], args := [d1, d2, d3] }
  | _ => none }
def CounterSumsWrongFalsely : Prop := counterSumsRow.holds Try.pinned (OpenSpec.ofChange counterSumsWrong)

/-- 'trunnellaw05.QueueRow': WHATEVER THE INPUT: true; the input reads as it did. -/
def queueRowSpec : ChangeSpec := { name := "queueRow", fn := fun _ => fun
  | [d1, d2] => { results := [.lit (.bool true)], args := [d1, d2] }
  | _ => none }
def queueRowRow : OpenClaim := { program := "ytfhfpklefgjeoaa", sum := "05febfc5e3256887239a2efba1d16dfc7aca6411dc417a34e3b2821c8a0017e2", func := "trunnel/trunnellaw05.QueueRow", spec := "queueRow", unfollowed := true, recurses := true, apart := false }
def QueueRowSaid : Prop := queueRowRow.holds Try.pinned (OpenSpec.ofChange queueRowSpec)

/-- ITS FALSE NEIGHBOUR: 'it returns false'. Refute it at one input. -/
def queueRowWrong : ChangeSpec := { name := "queueRow", fn := fun _ => fun
  | [d1, d2] => { results := [.lit (.bool false)], args := [d1, d2] }
  | _ => none }
def QueueRowWrongFalsely : Prop := queueRowRow.holds Try.pinned (OpenSpec.ofChange queueRowWrong)

/-- 'trunnellaw04.CounterPlays': WHATEVER THE INPUT: true; the input reads as it did. -/
def counterPlaysSpec : ChangeSpec := { name := "counterPlays", fn := fun _ => fun
  | [d1, d2] => { results := [.lit (.bool true)], args := [d1, d2] }
  | _ => none }
def counterPlaysRow : OpenClaim := { program := "ytfhfpklefgjeoaa", sum := "05febfc5e3256887239a2efba1d16dfc7aca6411dc417a34e3b2821c8a0017e2", func := "trunnel/trunnellaw04.CounterPlays", spec := "counterPlays", unfollowed := true, recurses := true, apart := false }
def CounterPlaysSaid : Prop := counterPlaysRow.holds Try.pinned (OpenSpec.ofChange counterPlaysSpec)

/-- ITS FALSE NEIGHBOUR: 'it returns false'. Refute it at one input. -/
def counterPlaysWrong : ChangeSpec := { name := "counterPlays", fn := fun _ => fun
  | [d1, d2] => { results := [.lit (.bool false)], args := [d1, d2] }
  | _ => none }
def CounterPlaysWrongFalsely : Prop := counterPlaysRow.holds Try.pinned (OpenSpec.ofChange counterPlaysWrong)

/-- 'trunnellaw03.ObjectGone': WHATEVER THE INPUT: true; the input reads as it did. -/
def objectGoneSpec : ChangeSpec := { name := "objectGone", fn := fun _ => fun
  | [d1, d2] => { results := [.lit (.bool true)], args := [d1, d2] }
  | _ => none }
def objectGoneRow : OpenClaim := { program := "ytfhfpklefgjeoaa", sum := "05febfc5e3256887239a2efba1d16dfc7aca6411dc417a34e3b2821c8a0017e2", func := "trunnel/trunnellaw03.ObjectGone", spec := "objectGone", unfollowed := true, recurses := true, apart := false }
def ObjectGoneSaid : Prop := objectGoneRow.holds Try.pinned (OpenSpec.ofChange objectGoneSpec)

/-- ITS FALSE NEIGHBOUR: 'it returns false'. Refute it at one input. -/
def objectGoneWrong : ChangeSpec := { name := "objectGone", fn := fun _ => fun
  | [d1, d2] => { results := [.lit (.bool false)], args := [d1, d2] }
  | _ => none }
def ObjectGoneWrongFalsely : Prop := objectGoneRow.holds Try.pinned (OpenSpec.ofChange objectGoneWrong)

/-- 'trunnellaw04.CounterStops': WHATEVER THE INPUT: true; the input reads as it did. -/
def counterStopsSpec : ChangeSpec := { name := "counterStops", fn := fun _ => fun
  | [d1, d2, d3] => { results := [.lit (.bool true)], args := [d1, d2, d3] }
  | _ => none }
def counterStopsRow : OpenClaim := { program := "ytfhfpklefgjeoaa", sum := "05febfc5e3256887239a2efba1d16dfc7aca6411dc417a34e3b2821c8a0017e2", func := "trunnel/trunnellaw04.CounterStops", spec := "counterStops", unfollowed := true, recurses := true, apart := false }
def CounterStopsSaid : Prop := counterStopsRow.holds Try.pinned (OpenSpec.ofChange counterStopsSpec)

/-- ITS FALSE NEIGHBOUR: 'it returns false'. Refute it at one input. -/
def counterStopsWrong : ChangeSpec := { name := "counterStops", fn := fun _ => fun
  | [d1, d2, d3] => { results := [.lit (.bool false)], args := [d1, d2, d3] }
  | _ => none }
def CounterStopsWrongFalsely : Prop := counterStopsRow.holds Try.pinned (OpenSpec.ofChange counterStopsWrong)

/-- 'trunnellaw05.QueuePlays': WHATEVER THE INPUT: true; the input reads as it did. -/
def queuePlaysSpec : ChangeSpec := { name := "queuePlays", fn := fun _ => fun
  | [d1, d2] => { results := [.lit (.bool true)], args := [d1, d2] }
  | _ => none }
def queuePlaysRow : OpenClaim := { program := "ytfhfpklefgjeoaa", sum := "05febfc5e3256887239a2efba1d16dfc7aca6411dc417a34e3b2821c8a0017e2", func := "trunnel/trunnellaw05.QueuePlays", spec := "queuePlays", unfollowed := true, recurses := true, apart := false }
def QueuePlaysSaid : Prop := queuePlaysRow.holds Try.pinned (OpenSpec.ofChange queuePlaysSpec)

/-- ITS FALSE NEIGHBOUR: 'it returns false'. Refute it at one input. -/
def queuePlaysWrong : ChangeSpec := { name := "queuePlays", fn := fun _ => fun
  | [d1, d2] => { results := [.lit (.bool false)], args := [d1, d2] }
  | _ => none }
def QueuePlaysWrongFalsely : Prop := queuePlaysRow.holds Try.pinned (OpenSpec.ofChange queuePlaysWrong)

/-- 'trunnellaw03.ObjectPlays': WHATEVER THE INPUT: true; the input reads as it did. -/
def objectPlaysSpec : ChangeSpec := { name := "objectPlays", fn := fun _ => fun
  | [d1, d2] => { results := [.lit (.bool true)], args := [d1, d2] }
  | _ => none }
def objectPlaysRow : OpenClaim := { program := "ytfhfpklefgjeoaa", sum := "05febfc5e3256887239a2efba1d16dfc7aca6411dc417a34e3b2821c8a0017e2", func := "trunnel/trunnellaw03.ObjectPlays", spec := "objectPlays", unfollowed := true, recurses := true, apart := false }
def ObjectPlaysSaid : Prop := objectPlaysRow.holds Try.pinned (OpenSpec.ofChange objectPlaysSpec)

/-- ITS FALSE NEIGHBOUR: 'it returns false'. Refute it at one input. -/
def objectPlaysWrong : ChangeSpec := { name := "objectPlays", fn := fun _ => fun
  | [d1, d2] => { results := [.lit (.bool false)], args := [d1, d2] }
  | _ => none }
def ObjectPlaysWrongFalsely : Prop := objectPlaysRow.holds Try.pinned (OpenSpec.ofChange objectPlaysWrong)

/-- 'trunnellaw05.QueueStops': WHATEVER THE INPUT: true; the input reads as it did. -/
def queueStopsSpec : ChangeSpec := { name := "queueStops", fn := fun _ => fun
  | [d1, d2, d3] => { results := [.lit (.bool true)], args := [d1, d2, d3] }
  | _ => none }
def queueStopsRow : OpenClaim := { program := "ytfhfpklefgjeoaa", sum := "05febfc5e3256887239a2efba1d16dfc7aca6411dc417a34e3b2821c8a0017e2", func := "trunnel/trunnellaw05.QueueStops", spec := "queueStops", unfollowed := true, recurses := true, apart := false }
def QueueStopsSaid : Prop := queueStopsRow.holds Try.pinned (OpenSpec.ofChange queueStopsSpec)

/-- ITS FALSE NEIGHBOUR: 'it returns false'. Refute it at one input. -/
def queueStopsWrong : ChangeSpec := { name := "queueStops", fn := fun _ => fun
  | [d1, d2, d3] => { results := [.lit (.bool false)], args := [d1, d2, d3] }
  | _ => none }
def QueueStopsWrongFalsely : Prop := queueStopsRow.holds Try.pinned (OpenSpec.ofChange queueStopsWrong)

/-- 'trunnellaw03.ObjectStops': WHATEVER THE INPUT: true; the input reads as it did. -/
def objectStopsSpec : ChangeSpec := { name := "objectStops", fn := fun _ => fun
  | [d1, d2, d3] => { results := [.lit (.bool true)], args := [d1, d2, d3] }
  | _ => none }
def objectStopsRow : OpenClaim := { program := "ytfhfpklefgjeoaa", sum := "05febfc5e3256887239a2efba1d16dfc7aca6411dc417a34e3b2821c8a0017e2", func := "trunnel/trunnellaw03.ObjectStops", spec := "objectStops", unfollowed := true, recurses := true, apart := false }
def ObjectStopsSaid : Prop := objectStopsRow.holds Try.pinned (OpenSpec.ofChange objectStopsSpec)

/-- ITS FALSE NEIGHBOUR: 'it returns false'. Refute it at one input. -/
def objectStopsWrong : ChangeSpec := { name := "objectStops", fn := fun _ => fun
  | [d1, d2, d3] => { results := [.lit (.bool false)], args := [d1, d2, d3] }
  | _ => none }
def ObjectStopsWrongFalsely : Prop := objectStopsRow.holds Try.pinned (OpenSpec.ofChange objectStopsWrong)

/- THE SECOND FORM. 'bulk': how many values and letters a reading holds, each counted each time it is reached (what is shared counts as often as it is met; a slice's spare places count too). A statement '..UptoSaid' is the law's where the arguments, and the package variables that the reading takes, are together of bulk at most 1048576: NARROWER than '..Said'. Prove '..Said' where nothing that the law and all that it calls make is longer than what came in: it says more and counts as full. Else prove '..UptoSaid'. A law counts once. -/
mutual
def uptoBulk {H : Type} : DataW H → Nat
  | .lit (.string bytes) => bytes.length + 1
  | .lit _ => 1
  | .nil => 1
  | .ptr d => uptoBulk d + 1
  | .slice elems spare => uptoBulkAll elems + uptoBulkAll spare + 1
  | .agg parts => uptoBulkAll parts + 1
  | .iface _ d => uptoBulk d + 1
  | .map entries => uptoBulkEntries entries + 1
  | .held _ => 1
def uptoBulkAll {H : Type} : List (DataW H) → Nat
  | [] => 0
  | d :: r => uptoBulk d + uptoBulkAll r
def uptoBulkEntries {H : Type} : List (Lit × DataW H) → Nat
  | [] => 0
  | x :: r => uptoBulkEntry x + uptoBulkEntries r
def uptoBulkEntry {H : Type} : Lit × DataW H → Nat
  | (.string bytes, d) => bytes.length + uptoBulk d + 1
  | (_, d) => uptoBulk d + 1
 end
def uptoSmall : (H : Type) → List (DataW H) → Bool := fun _ ds => decide (uptoBulkAll ds ≤ 1048576)
def OpenSpec.upto (s : _root_.Go.ChangeSpec) : _root_.Go.OpenSpec := { _root_.Go.OpenSpec.ofChange s with cond := some uptoSmall }

/-- 'trunnellaw02.MemStops', WHERE WHAT IT READS IS OF BULK AT MOST 1048576: true; the input reads as it did. -/
def memStopsUptoRow : OpenClaim := { program := "ytfhfpklefgjeoaa", sum := "05febfc5e3256887239a2efba1d16dfc7aca6411dc417a34e3b2821c8a0017e2", func := "trunnel/trunnellaw02.MemStops", spec := "memStops", unfollowed := true, recurses := true, apart := false, narrowed := true }
def MemStopsUptoSaid : Prop := memStopsUptoRow.holds Try.pinned (OpenSpec.upto memStopsSpec)

/-- 'trunnellaw02.MemPlays', WHERE WHAT IT READS IS OF BULK AT MOST 1048576: true; the input reads as it did. -/
def memPlaysUptoRow : OpenClaim := { program := "ytfhfpklefgjeoaa", sum := "05febfc5e3256887239a2efba1d16dfc7aca6411dc417a34e3b2821c8a0017e2", func := "trunnel/trunnellaw02.MemPlays", spec := "memPlays", unfollowed := true, recurses := true, apart := false, narrowed := true }
def MemPlaysUptoSaid : Prop := memPlaysUptoRow.holds Try.pinned (OpenSpec.upto memPlaysSpec)

/-- 'trunnellaw04.CounterSums', WHERE WHAT IT READS IS OF BULK AT MOST 1048576: true; the input reads as it did. -/
def counterSumsUptoRow : OpenClaim := { program := "ytfhfpklefgjeoaa", sum := "05febfc5e3256887239a2efba1d16dfc7aca6411dc417a34e3b2821c8a0017e2", func := "trunnel/trunnellaw04.CounterSums", spec := "counterSums", unfollowed := true, recurses := true, apart := false, narrowed := true }
def CounterSumsUptoSaid : Prop := counterSumsUptoRow.holds Try.pinned (OpenSpec.upto counterSumsSpec)

/-- 'trunnellaw05.QueueRow', WHERE WHAT IT READS IS OF BULK AT MOST 1048576: true; the input reads as it did. -/
def queueRowUptoRow : OpenClaim := { program := "ytfhfpklefgjeoaa", sum := "05febfc5e3256887239a2efba1d16dfc7aca6411dc417a34e3b2821c8a0017e2", func := "trunnel/trunnellaw05.QueueRow", spec := "queueRow", unfollowed := true, recurses := true, apart := false, narrowed := true }
def QueueRowUptoSaid : Prop := queueRowUptoRow.holds Try.pinned (OpenSpec.upto queueRowSpec)

/-- 'trunnellaw04.CounterPlays', WHERE WHAT IT READS IS OF BULK AT MOST 1048576: true; the input reads as it did. -/
def counterPlaysUptoRow : OpenClaim := { program := "ytfhfpklefgjeoaa", sum := "05febfc5e3256887239a2efba1d16dfc7aca6411dc417a34e3b2821c8a0017e2", func := "trunnel/trunnellaw04.CounterPlays", spec := "counterPlays", unfollowed := true, recurses := true, apart := false, narrowed := true }
def CounterPlaysUptoSaid : Prop := counterPlaysUptoRow.holds Try.pinned (OpenSpec.upto counterPlaysSpec)

/-- 'trunnellaw03.ObjectGone', WHERE WHAT IT READS IS OF BULK AT MOST 1048576: true; the input reads as it did. -/
def objectGoneUptoRow : OpenClaim := { program := "ytfhfpklefgjeoaa", sum := "05febfc5e3256887239a2efba1d16dfc7aca6411dc417a34e3b2821c8a0017e2", func := "trunnel/trunnellaw03.ObjectGone", spec := "objectGone", unfollowed := true, recurses := true, apart := false, narrowed := true }
def ObjectGoneUptoSaid : Prop := objectGoneUptoRow.holds Try.pinned (OpenSpec.upto objectGoneSpec)

/-- 'trunnellaw04.CounterStops', WHERE WHAT IT READS IS OF BULK AT MOST 1048576: true; the input reads as it did. -/
def counterStopsUptoRow : OpenClaim := { program := "ytfhfpklefgjeoaa", sum := "05febfc5e3256887239a2efba1d16dfc7aca6411dc417a34e3b2821c8a0017e2", func := "trunnel/trunnellaw04.CounterStops", spec := "counterStops", unfollowed := true, recurses := true, apart := false, narrowed := true }
def CounterStopsUptoSaid : Prop := counterStopsUptoRow.holds Try.pinned (OpenSpec.upto counterStopsSpec)

/-- 'trunnellaw05.QueuePlays', WHERE WHAT IT READS IS OF BULK AT MOST 1048576: true; the input reads as it did. -/
def queuePlaysUptoRow : OpenClaim := { program := "ytfhfpklefgjeoaa", sum := "05febfc5e3256887239a2efba1d16dfc7aca6411dc417a34e3b2821c8a0017e2", func := "trunnel/trunnellaw05.QueuePlays", spec := "queuePlays", unfollowed := true, recurses := true, apart := false, narrowed := true }
def QueuePlaysUptoSaid : Prop := queuePlaysUptoRow.holds Try.pinned (OpenSpec.upto queuePlaysSpec)

/-- 'trunnellaw03.ObjectPlays', WHERE WHAT IT READS IS OF BULK AT MOST 1048576: true; the input reads as it did. -/
def objectPlaysUptoRow : OpenClaim := { program := "ytfhfpklefgjeoaa", sum := "05febfc5e3256887239a2efba1d16dfc7aca6411dc417a34e3b2821c8a0017e2", func := "trunnel/trunnellaw03.ObjectPlays", spec := "objectPlays", unfollowed := true, recurses := true, apart := false, narrowed := true }
def ObjectPlaysUptoSaid : Prop := objectPlaysUptoRow.holds Try.pinned (OpenSpec.upto objectPlaysSpec)

/-- 'trunnellaw05.QueueStops', WHERE WHAT IT READS IS OF BULK AT MOST 1048576: true; the input reads as it did. -/
def queueStopsUptoRow : OpenClaim := { program := "ytfhfpklefgjeoaa", sum := "05febfc5e3256887239a2efba1d16dfc7aca6411dc417a34e3b2821c8a0017e2", func := "trunnel/trunnellaw05.QueueStops", spec := "queueStops", unfollowed := true, recurses := true, apart := false, narrowed := true }
def QueueStopsUptoSaid : Prop := queueStopsUptoRow.holds Try.pinned (OpenSpec.upto queueStopsSpec)

/-- 'trunnellaw03.ObjectStops', WHERE WHAT IT READS IS OF BULK AT MOST 1048576: true; the input reads as it did. -/
def objectStopsUptoRow : OpenClaim := { program := "ytfhfpklefgjeoaa", sum := "05febfc5e3256887239a2efba1d16dfc7aca6411dc417a34e3b2821c8a0017e2", func := "trunnel/trunnellaw03.ObjectStops", spec := "objectStops", unfollowed := true, recurses := true, apart := false, narrowed := true }
def ObjectStopsUptoSaid : Prop := objectStopsUptoRow.holds Try.pinned (OpenSpec.upto objectStopsSpec)

end Rows
end Go.Proofs.Ytfhfpklefgjeoaa
