/-
  No cell of these rows narrows 'for every input' (looked for: loops, veiled, ifaces, maps, wideKeys, modest, calm, conditions, laid).
  DERIVED. THE GIVEN ROWS OF THIS SEAT. 10 by the template 'for every input the law returns true; each argument reads behind the call as it read before'; 0 by the template 'total and deterministic' (their statements: YtkeecncgfhgnpaaTotals.lean).
  GIVEN WITH THE SEED: the statements are not yours to turn. If you find one false, say at which input.
  Laid BY PROGRAM, IN A SANDBOX (cutbox-rows.mjs): the forced cells as the released guide's own fill.sh prints them over the translation 152e64afdbd37559… (all of the seat's roots in one cut). By AI agents, Wed Nov 11 2026. No macro, syntax, notation, axiom, sorry.
-/
import Derived.Test.YtkeecncgfhgnpaaChecked
import GoSem.Claim
import GoSem.ClaimJoined
import GoSem.ClaimMapViews
import Derived.JoinedTies
import Derived.KernelRfl
namespace Go.Proofs.Ytkeecncgfhgnpaa
/- THE CELL 'sum', in the pinned program and in every row, IS THE sha256 OF THE DUMP (.gsa) THAT YtkeecncgfhgnpaaProg.lean LOADS. Nothing in Lean hashes anything: it is a label: what it is worth is what the hold of that sum in a sandbox is worth. -/
noncomputable def Try.pinned : Pinned := { name := "ytkeecncgfhgnpaa", sum := "152e64afdbd37559a0890806a6a15e6f7f2eb7365830f8f4ef134a51fb7d1550", checked := Try.checked }
namespace Rows
def none {H : Type} : Left H := { results := [], args := [] }

/-- 'weftlinelaw28.RebindPackets': WHATEVER THE INPUT: true; the input reads as it did. -/
def rebindPacketsSpec : ChangeSpec := { name := "rebindPackets", fn := fun _ => fun
  | [d1, d2] => { results := [.lit (.bool true)], args := [d1, d2] }
  | _ => none }
def rebindPacketsRow : OpenClaim := { program := "ytkeecncgfhgnpaa", sum := "152e64afdbd37559a0890806a6a15e6f7f2eb7365830f8f4ef134a51fb7d1550", func := "weftline/weftlinelaw28.RebindPackets", spec := "rebindPackets", plainKeys := false, apart := false }
def RebindPacketsSaid : Prop := rebindPacketsRow.holds Try.pinned (OpenSpec.ofChange rebindPacketsSpec)

/-- ITS FALSE NEIGHBOUR: 'it returns false'. Refute it at one input. -/
def rebindPacketsWrong : ChangeSpec := { name := "rebindPackets", fn := fun _ => fun
  | [d1, d2] => { results := [.lit (.bool false)], args := [d1, d2] }
  | _ => none }
def RebindPacketsWrongFalsely : Prop := rebindPacketsRow.holds Try.pinned (OpenSpec.ofChange rebindPacketsWrong)

/-- 'weftlinelaw20.ReasmMixes': WHATEVER THE INPUT: true; the input reads as it did. -/
def reasmMixesSpec : ChangeSpec := { name := "reasmMixes", fn := fun _ => fun
  | [d] => { results := [.lit (.bool true)], args := [d] }
  | _ => none }
def reasmMixesRow : OpenClaim := { program := "ytkeecncgfhgnpaa", sum := "152e64afdbd37559a0890806a6a15e6f7f2eb7365830f8f4ef134a51fb7d1550", func := "weftline/weftlinelaw20.ReasmMixes", spec := "reasmMixes", unfollowed := true, recurses := true, plainKeys := false, apart := false }
def ReasmMixesSaid : Prop := reasmMixesRow.holds Try.pinned (OpenSpec.ofChange reasmMixesSpec)

/-- ITS FALSE NEIGHBOUR: 'it returns false'. Refute it at one input. -/
def reasmMixesWrong : ChangeSpec := { name := "reasmMixes", fn := fun _ => fun
  | [d] => { results := [.lit (.bool false)], args := [d] }
  | _ => none }
def ReasmMixesWrongFalsely : Prop := reasmMixesRow.holds Try.pinned (OpenSpec.ofChange reasmMixesWrong)

/-- 'weftlinelaw21.OrderCounts': WHATEVER THE INPUT: true; the input reads as it did. -/
def orderCountsSpec : ChangeSpec := { name := "orderCounts", fn := fun _ => fun
  | [d] => { results := [.lit (.bool true)], args := [d] }
  | _ => none }
def orderCountsRow : OpenClaim := { program := "ytkeecncgfhgnpaa", sum := "152e64afdbd37559a0890806a6a15e6f7f2eb7365830f8f4ef134a51fb7d1550", func := "weftline/weftlinelaw21.OrderCounts", spec := "orderCounts", unfollowed := true, recurses := true, plainKeys := false, apart := false }
def OrderCountsSaid : Prop := orderCountsRow.holds Try.pinned (OpenSpec.ofChange orderCountsSpec)

/-- ITS FALSE NEIGHBOUR: 'it returns false'. Refute it at one input. -/
def orderCountsWrong : ChangeSpec := { name := "orderCounts", fn := fun _ => fun
  | [d] => { results := [.lit (.bool false)], args := [d] }
  | _ => none }
def OrderCountsWrongFalsely : Prop := orderCountsRow.holds Try.pinned (OpenSpec.ofChange orderCountsWrong)

/-- 'weftlinelaw21.OrderPlays': WHATEVER THE INPUT: true; the input reads as it did. -/
def orderPlaysSpec : ChangeSpec := { name := "orderPlays", fn := fun _ => fun
  | [d] => { results := [.lit (.bool true)], args := [d] }
  | _ => none }
def orderPlaysRow : OpenClaim := { program := "ytkeecncgfhgnpaa", sum := "152e64afdbd37559a0890806a6a15e6f7f2eb7365830f8f4ef134a51fb7d1550", func := "weftline/weftlinelaw21.OrderPlays", spec := "orderPlays", unfollowed := true, recurses := true, plainKeys := false, apart := false }
def OrderPlaysSaid : Prop := orderPlaysRow.holds Try.pinned (OpenSpec.ofChange orderPlaysSpec)

/-- ITS FALSE NEIGHBOUR: 'it returns false'. Refute it at one input. -/
def orderPlaysWrong : ChangeSpec := { name := "orderPlays", fn := fun _ => fun
  | [d] => { results := [.lit (.bool false)], args := [d] }
  | _ => none }
def OrderPlaysWrongFalsely : Prop := orderPlaysRow.holds Try.pinned (OpenSpec.ofChange orderPlaysWrong)

/-- 'weftlinelaw21.OrderSorts': WHATEVER THE INPUT: true; the input reads as it did. -/
def orderSortsSpec : ChangeSpec := { name := "orderSorts", fn := fun _ => fun
  | [d1, d2, d3] => { results := [.lit (.bool true)], args := [d1, d2, d3] }
  | _ => none }
def orderSortsRow : OpenClaim := { program := "ytkeecncgfhgnpaa", sum := "152e64afdbd37559a0890806a6a15e6f7f2eb7365830f8f4ef134a51fb7d1550", func := "weftline/weftlinelaw21.OrderSorts", spec := "orderSorts", unfollowed := true, recurses := true, plainKeys := false, apart := false }
def OrderSortsSaid : Prop := orderSortsRow.holds Try.pinned (OpenSpec.ofChange orderSortsSpec)

/-- ITS FALSE NEIGHBOUR: 'it returns false'. Refute it at one input. -/
def orderSortsWrong : ChangeSpec := { name := "orderSorts", fn := fun _ => fun
  | [d1, d2, d3] => { results := [.lit (.bool false)], args := [d1, d2, d3] }
  | _ => none }
def OrderSortsWrongFalsely : Prop := orderSortsRow.holds Try.pinned (OpenSpec.ofChange orderSortsWrong)

/-- 'weftlinelaw21.OrderLoads': WHATEVER THE INPUT: true; the input reads as it did. -/
def orderLoadsSpec : ChangeSpec := { name := "orderLoads", fn := fun _ => fun
  | [d1, d2, d3] => { results := [.lit (.bool true)], args := [d1, d2, d3] }
  | _ => none }
def orderLoadsRow : OpenClaim := { program := "ytkeecncgfhgnpaa", sum := "152e64afdbd37559a0890806a6a15e6f7f2eb7365830f8f4ef134a51fb7d1550", func := "weftline/weftlinelaw21.OrderLoads", spec := "orderLoads", inPlace := ["maps.clone"], unfollowed := true, recurses := true, plainKeys := false, apart := false }
def OrderLoadsSaid : Prop := orderLoadsRow.holds Try.pinned (OpenSpec.ofChange orderLoadsSpec)

/-- ITS FALSE NEIGHBOUR: 'it returns false'. Refute it at one input. -/
def orderLoadsWrong : ChangeSpec := { name := "orderLoads", fn := fun _ => fun
  | [d1, d2, d3] => { results := [.lit (.bool false)], args := [d1, d2, d3] }
  | _ => none }
def OrderLoadsWrongFalsely : Prop := orderLoadsRow.holds Try.pinned (OpenSpec.ofChange orderLoadsWrong)

/-- 'weftlinelaw20.ReasmPlays': WHATEVER THE INPUT: true; the input reads as it did. -/
def reasmPlaysSpec : ChangeSpec := { name := "reasmPlays", fn := fun _ => fun
  | [d1, d2] => { results := [.lit (.bool true)], args := [d1, d2] }
  | _ => none }
def reasmPlaysRow : OpenClaim := { program := "ytkeecncgfhgnpaa", sum := "152e64afdbd37559a0890806a6a15e6f7f2eb7365830f8f4ef134a51fb7d1550", func := "weftline/weftlinelaw20.ReasmPlays", spec := "reasmPlays", unfollowed := true, recurses := true, plainKeys := false, apart := false }
def ReasmPlaysSaid : Prop := reasmPlaysRow.holds Try.pinned (OpenSpec.ofChange reasmPlaysSpec)

/-- ITS FALSE NEIGHBOUR: 'it returns false'. Refute it at one input. -/
def reasmPlaysWrong : ChangeSpec := { name := "reasmPlays", fn := fun _ => fun
  | [d1, d2] => { results := [.lit (.bool false)], args := [d1, d2] }
  | _ => none }
def ReasmPlaysWrongFalsely : Prop := reasmPlaysRow.holds Try.pinned (OpenSpec.ofChange reasmPlaysWrong)

/-- 'weftlinelaw20.ReasmLoads': WHATEVER THE INPUT: true; the input reads as it did. -/
def reasmLoadsSpec : ChangeSpec := { name := "reasmLoads", fn := fun _ => fun
  | [d1, d2, d3] => { results := [.lit (.bool true)], args := [d1, d2, d3] }
  | _ => none }
def reasmLoadsRow : OpenClaim := { program := "ytkeecncgfhgnpaa", sum := "152e64afdbd37559a0890806a6a15e6f7f2eb7365830f8f4ef134a51fb7d1550", func := "weftline/weftlinelaw20.ReasmLoads", spec := "reasmLoads", inPlace := ["maps.clone"], unfollowed := true, recurses := true, plainKeys := false, apart := false }
def ReasmLoadsSaid : Prop := reasmLoadsRow.holds Try.pinned (OpenSpec.ofChange reasmLoadsSpec)

/-- ITS FALSE NEIGHBOUR: 'it returns false'. Refute it at one input. -/
def reasmLoadsWrong : ChangeSpec := { name := "reasmLoads", fn := fun _ => fun
  | [d1, d2, d3] => { results := [.lit (.bool false)], args := [d1, d2, d3] }
  | _ => none }
def ReasmLoadsWrongFalsely : Prop := reasmLoadsRow.holds Try.pinned (OpenSpec.ofChange reasmLoadsWrong)

/-- 'weftlinelaw22.InqPrefix': WHATEVER THE INPUT: true; the input reads as it did. -/
def inqPrefixSpec : ChangeSpec := { name := "inqPrefix", fn := fun _ => fun
  | [d] => { results := [.lit (.bool true)], args := [d] }
  | _ => none }
def inqPrefixRow : OpenClaim := { program := "ytkeecncgfhgnpaa", sum := "152e64afdbd37559a0890806a6a15e6f7f2eb7365830f8f4ef134a51fb7d1550", func := "weftline/weftlinelaw22.InqPrefix", spec := "inqPrefix", inPlace := ["slices.overlaps[uint32]"], unfollowed := true, recurses := true, plainKeys := false, apart := false }
def InqPrefixSaid : Prop := inqPrefixRow.holds Try.pinned (OpenSpec.ofChange inqPrefixSpec)

/-- ITS FALSE NEIGHBOUR: 'it returns false'. Refute it at one input. -/
def inqPrefixWrong : ChangeSpec := { name := "inqPrefix", fn := fun _ => fun
  | [d] => { results := [.lit (.bool false)], args := [d] }
  | _ => none }
def InqPrefixWrongFalsely : Prop := inqPrefixRow.holds Try.pinned (OpenSpec.ofChange inqPrefixWrong)

/-- 'weftlinelaw22.InqWindow': WHATEVER THE INPUT: true; the input reads as it did. -/
def inqWindowSpec : ChangeSpec := { name := "inqWindow", fn := fun _ => fun
  | [d1, d2] => { results := [.lit (.bool true)], args := [d1, d2] }
  | _ => none }
def inqWindowRow : OpenClaim := { program := "ytkeecncgfhgnpaa", sum := "152e64afdbd37559a0890806a6a15e6f7f2eb7365830f8f4ef134a51fb7d1550", func := "weftline/weftlinelaw22.InqWindow", spec := "inqWindow", inPlace := ["slices.overlaps[uint32]"], unfollowed := true, recurses := true, plainKeys := false, apart := false }
def InqWindowSaid : Prop := inqWindowRow.holds Try.pinned (OpenSpec.ofChange inqWindowSpec)

/-- ITS FALSE NEIGHBOUR: 'it returns false'. Refute it at one input. -/
def inqWindowWrong : ChangeSpec := { name := "inqWindow", fn := fun _ => fun
  | [d1, d2] => { results := [.lit (.bool false)], args := [d1, d2] }
  | _ => none }
def InqWindowWrongFalsely : Prop := inqWindowRow.holds Try.pinned (OpenSpec.ofChange inqWindowWrong)

/- THE SECOND FORM. 'bulk': how many values and letters a reading holds, each counted each time it is reached (what is shared counts as often as it is met; a slice's spare places count too). A statement '..UptoSaid' is the law's where the arguments, and the package variables that the reading takes, are together of bulk at most 1048576: NARROWER than '..Said'. Prove '..Said' where nothing that the law and all that it calls make is longer than what came in: it says more and counts as full. Else prove '..UptoSaid'. A law counts once. -/
mutual
def uptoBulk {H : Type} : DataW H → Nat
  | .lit (.string bytes) => bytes.length + 1
  | .lit _ => 1
  | .nil => 1
  | .ptr d => uptoBulk d + 1
  | .slice elems spare => uptoBulkAll elems + uptoBulkAll spare + 1
  | .agg parts => uptoBulkAll parts + 1
  | .iface _ d => uptoBulk d + 1
  | .map entries => uptoBulkEntries entries + 1
  | .held _ => 1
def uptoBulkAll {H : Type} : List (DataW H) → Nat
  | [] => 0
  | d :: r => uptoBulk d + uptoBulkAll r
def uptoBulkEntries {H : Type} : List (Lit × DataW H) → Nat
  | [] => 0
  | x :: r => uptoBulkEntry x + uptoBulkEntries r
def uptoBulkEntry {H : Type} : Lit × DataW H → Nat
  | (.string bytes, d) => bytes.length + uptoBulk d + 1
  | (_, d) => uptoBulk d + 1
 end
def uptoSmall : (H : Type) → List (DataW H) → Bool := fun _ ds => decide (uptoBulkAll ds ≤ 1048576)
def OpenSpec.upto (s : _root_.Go.ChangeSpec) : _root_.Go.OpenSpec := { _root_.Go.OpenSpec.ofChange s with cond := some uptoSmall }

/-- 'weftlinelaw28.RebindPackets', WHERE WHAT IT READS IS OF BULK AT MOST 1048576: true; the input reads as it did. -/
def rebindPacketsUptoRow : OpenClaim := { program := "ytkeecncgfhgnpaa", sum := "152e64afdbd37559a0890806a6a15e6f7f2eb7365830f8f4ef134a51fb7d1550", func := "weftline/weftlinelaw28.RebindPackets", spec := "rebindPackets", plainKeys := false, apart := false, narrowed := true }
def RebindPacketsUptoSaid : Prop := rebindPacketsUptoRow.holds Try.pinned (OpenSpec.upto rebindPacketsSpec)

/-- 'weftlinelaw20.ReasmMixes', WHERE WHAT IT READS IS OF BULK AT MOST 1048576: true; the input reads as it did. -/
def reasmMixesUptoRow : OpenClaim := { program := "ytkeecncgfhgnpaa", sum := "152e64afdbd37559a0890806a6a15e6f7f2eb7365830f8f4ef134a51fb7d1550", func := "weftline/weftlinelaw20.ReasmMixes", spec := "reasmMixes", unfollowed := true, recurses := true, plainKeys := false, apart := false, narrowed := true }
def ReasmMixesUptoSaid : Prop := reasmMixesUptoRow.holds Try.pinned (OpenSpec.upto reasmMixesSpec)

/-- 'weftlinelaw21.OrderCounts', WHERE WHAT IT READS IS OF BULK AT MOST 1048576: true; the input reads as it did. -/
def orderCountsUptoRow : OpenClaim := { program := "ytkeecncgfhgnpaa", sum := "152e64afdbd37559a0890806a6a15e6f7f2eb7365830f8f4ef134a51fb7d1550", func := "weftline/weftlinelaw21.OrderCounts", spec := "orderCounts", unfollowed := true, recurses := true, plainKeys := false, apart := false, narrowed := true }
def OrderCountsUptoSaid : Prop := orderCountsUptoRow.holds Try.pinned (OpenSpec.upto orderCountsSpec)

/-- 'weftlinelaw21.OrderPlays', WHERE WHAT IT READS IS OF BULK AT MOST 1048576: true; the input reads as it did. -/
def orderPlaysUptoRow : OpenClaim := { program := "ytkeecncgfhgnpaa", sum := "152e64afdbd37559a0890806a6a15e6f7f2eb7365830f8f4ef134a51fb7d1550", func := "weftline/weftlinelaw21.OrderPlays", spec := "orderPlays", unfollowed := true, recurses := true, plainKeys := false, apart := false, narrowed := true }
def OrderPlaysUptoSaid : Prop := orderPlaysUptoRow.holds Try.pinned (OpenSpec.upto orderPlaysSpec)

/-- 'weftlinelaw21.OrderSorts', WHERE WHAT IT READS IS OF BULK AT MOST 1048576: true; the input reads as it did. -/
def orderSortsUptoRow : OpenClaim := { program := "ytkeecncgfhgnpaa", sum := "152e64afdbd37559a0890806a6a15e6f7f2eb7365830f8f4ef134a51fb7d1550", func := "weftline/weftlinelaw21.OrderSorts", spec := "orderSorts", unfollowed := true, recurses := true, plainKeys := false, apart := false, narrowed := true }
def OrderSortsUptoSaid : Prop := orderSortsUptoRow.holds Try.pinned (OpenSpec.upto orderSortsSpec)

/-- 'weftlinelaw21.OrderLoads', WHERE WHAT IT READS IS OF BULK AT MOST 1048576: true; the input reads as it did. -/
def orderLoadsUptoRow : OpenClaim := { program := "ytkeecncgfhgnpaa", sum := "152e64afdbd37559a0890806a6a15e6f7f2eb7365830f8f4ef134a51fb7d1550", func := "weftline/weftlinelaw21.OrderLoads", spec := "orderLoads", inPlace := ["maps.clone"], unfollowed := true, recurses := true, plainKeys := false, apart := false, narrowed := true }
def OrderLoadsUptoSaid : Prop := orderLoadsUptoRow.holds Try.pinned (OpenSpec.upto orderLoadsSpec)

/-- 'weftlinelaw20.ReasmPlays', WHERE WHAT IT READS IS OF BULK AT MOST 1048576: true; the input reads as it did. -/
def reasmPlaysUptoRow : OpenClaim := { program := "ytkeecncgfhgnpaa", sum := "152e64afdbd37559a0890806a6a15e6f7f2eb7365830f8f4ef134a51fb7d1550", func := "weftline/weftlinelaw20.ReasmPlays", spec := "reasmPlays", unfollowed := true, recurses := true, plainKeys := false, apart := false, narrowed := true }
def ReasmPlaysUptoSaid : Prop := reasmPlaysUptoRow.holds Try.pinned (OpenSpec.upto reasmPlaysSpec)

/-- 'weftlinelaw20.ReasmLoads', WHERE WHAT IT READS IS OF BULK AT MOST 1048576: true; the input reads as it did. -/
def reasmLoadsUptoRow : OpenClaim := { program := "ytkeecncgfhgnpaa", sum := "152e64afdbd37559a0890806a6a15e6f7f2eb7365830f8f4ef134a51fb7d1550", func := "weftline/weftlinelaw20.ReasmLoads", spec := "reasmLoads", inPlace := ["maps.clone"], unfollowed := true, recurses := true, plainKeys := false, apart := false, narrowed := true }
def ReasmLoadsUptoSaid : Prop := reasmLoadsUptoRow.holds Try.pinned (OpenSpec.upto reasmLoadsSpec)

/-- 'weftlinelaw22.InqPrefix', WHERE WHAT IT READS IS OF BULK AT MOST 1048576: true; the input reads as it did. -/
def inqPrefixUptoRow : OpenClaim := { program := "ytkeecncgfhgnpaa", sum := "152e64afdbd37559a0890806a6a15e6f7f2eb7365830f8f4ef134a51fb7d1550", func := "weftline/weftlinelaw22.InqPrefix", spec := "inqPrefix", inPlace := ["slices.overlaps[uint32]"], unfollowed := true, recurses := true, plainKeys := false, apart := false, narrowed := true }
def InqPrefixUptoSaid : Prop := inqPrefixUptoRow.holds Try.pinned (OpenSpec.upto inqPrefixSpec)

/-- 'weftlinelaw22.InqWindow', WHERE WHAT IT READS IS OF BULK AT MOST 1048576: true; the input reads as it did. -/
def inqWindowUptoRow : OpenClaim := { program := "ytkeecncgfhgnpaa", sum := "152e64afdbd37559a0890806a6a15e6f7f2eb7365830f8f4ef134a51fb7d1550", func := "weftline/weftlinelaw22.InqWindow", spec := "inqWindow", inPlace := ["slices.overlaps[uint32]"], unfollowed := true, recurses := true, plainKeys := false, apart := false, narrowed := true }
def InqWindowUptoSaid : Prop := inqWindowUptoRow.holds Try.pinned (OpenSpec.upto inqWindowSpec)

end Rows
end Go.Proofs.Ytkeecncgfhgnpaa
