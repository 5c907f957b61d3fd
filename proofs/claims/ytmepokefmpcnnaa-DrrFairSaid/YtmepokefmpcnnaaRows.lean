/-
  No cell of these rows narrows 'for every input' (looked for: loops, veiled, ifaces, maps, wideKeys, modest, calm, conditions, laid).
  DERIVED. THE GIVEN ROWS OF THIS SEAT. 12 by the template 'for every input the law returns true; each argument reads behind the call as it read before'; 0 by the template 'total and deterministic' (their statements: YtmepokefmpcnnaaTotals.lean).
  GIVEN WITH THE SEED: the statements are not yours to turn. If you find one false, say at which input.
  Laid BY PROGRAM, IN A SANDBOX (cutbox-rows.mjs): the forced cells as the released guide's own fill.sh prints them over the translation b60f9942117e4285… (all of the seat's roots in one cut). By AI agents, Wed Nov 11 2026. No macro, syntax, notation, axiom, sorry.
-/
import Derived.Test.YtmepokefmpcnnaaChecked
import GoSem.Claim
import GoSem.ClaimJoined
import GoSem.ClaimMapViews
import Derived.JoinedTies
import Derived.KernelRfl
namespace Go.Proofs.Ytmepokefmpcnnaa
/- THE CELL 'sum', in the pinned program and in every row, IS THE sha256 OF THE DUMP (.gsa) THAT YtmepokefmpcnnaaProg.lean LOADS. Nothing in Lean hashes anything: it is a label: what it is worth is what the hold of that sum in a sandbox is worth. -/
noncomputable def Try.pinned : Pinned := { name := "ytmepokefmpcnnaa", sum := "b60f9942117e4285638e4f257f81dc0a68063ea2a779ce0cdea5410b35238f6f", checked := Try.checked }
namespace Rows
def none {H : Type} : Left H := { results := [], args := [] }

/-- 'weighbridgelaw15.FlowstateCloses': WHATEVER THE INPUT: true; the input reads as it did. -/
def flowstateClosesSpec : ChangeSpec := { name := "flowstateCloses", fn := fun _ => fun
  | [d1, d2] => { results := [.lit (.bool true)], args := [d1, d2] }
  | _ => none }
def flowstateClosesRow : OpenClaim := { program := "ytmepokefmpcnnaa", sum := "b60f9942117e4285638e4f257f81dc0a68063ea2a779ce0cdea5410b35238f6f", func := "weighbridge/weighbridgelaw15.FlowstateCloses", spec := "flowstateCloses", unfollowed := true, recurses := true, apart := false }
def FlowstateClosesSaid : Prop := flowstateClosesRow.holds Try.pinned (OpenSpec.ofChange flowstateClosesSpec)

/-- ITS FALSE NEIGHBOUR: 'it returns false'. Refute it at one input. -/
def flowstateClosesWrong : ChangeSpec := { name := "flowstateCloses", fn := fun _ => fun
  | [d1, d2] => { results := [.lit (.bool false)], args := [d1, d2] }
  | _ => none }
def FlowstateClosesWrongFalsely : Prop := flowstateClosesRow.holds Try.pinned (OpenSpec.ofChange flowstateClosesWrong)

/-- 'weighbridgelaw15.FlowstateTells': WHATEVER THE INPUT: true; the input reads as it did. -/
def flowstateTellsSpec : ChangeSpec := { name := "flowstateTells", fn := fun _ => fun
  | [d1, d2, d3, d4] => { results := [.lit (.bool true)], args := [d1, d2, d3, d4] }
  | _ => none }
def flowstateTellsRow : OpenClaim := { program := "ytmepokefmpcnnaa", sum := "b60f9942117e4285638e4f257f81dc0a68063ea2a779ce0cdea5410b35238f6f", func := "weighbridge/weighbridgelaw15.FlowstateTells", spec := "flowstateTells", unfollowed := true, recurses := true, apart := false }
def FlowstateTellsSaid : Prop := flowstateTellsRow.holds Try.pinned (OpenSpec.ofChange flowstateTellsSpec)

/-- ITS FALSE NEIGHBOUR: 'it returns false'. Refute it at one input. -/
def flowstateTellsWrong : ChangeSpec := { name := "flowstateTells", fn := fun _ => fun
  | [d1, d2, d3, d4] => { results := [.lit (.bool false)], args := [d1, d2, d3, d4] }
  | _ => none }
def FlowstateTellsWrongFalsely : Prop := flowstateTellsRow.holds Try.pinned (OpenSpec.ofChange flowstateTellsWrong)

/-- 'weighbridgelaw27.QueueOrder': WHATEVER THE INPUT: true; the input reads as it did. -/
def queueOrderSpec : ChangeSpec := { name := "queueOrder", fn := fun _ => fun
  | [d1, d2] => { results := [.lit (.bool true)], args := [d1, d2] }
  | _ => none }
def queueOrderRow : OpenClaim := { program := "ytmepokefmpcnnaa", sum := "b60f9942117e4285638e4f257f81dc0a68063ea2a779ce0cdea5410b35238f6f", func := "weighbridge/weighbridgelaw27.QueueOrder", spec := "queueOrder", unfollowed := true, recurses := true, apart := false }
def QueueOrderSaid : Prop := queueOrderRow.holds Try.pinned (OpenSpec.ofChange queueOrderSpec)

/-- ITS FALSE NEIGHBOUR: 'it returns false'. Refute it at one input. -/
def queueOrderWrong : ChangeSpec := { name := "queueOrder", fn := fun _ => fun
  | [d1, d2] => { results := [.lit (.bool false)], args := [d1, d2] }
  | _ => none }
def QueueOrderWrongFalsely : Prop := queueOrderRow.holds Try.pinned (OpenSpec.ofChange queueOrderWrong)

/-- 'weighbridgelaw27.QueuePlays': WHATEVER THE INPUT: true; the input reads as it did. -/
def queuePlaysSpec : ChangeSpec := { name := "queuePlays", fn := fun _ => fun
  | [d1, d2] => { results := [.lit (.bool true)], args := [d1, d2] }
  | _ => none }
def queuePlaysRow : OpenClaim := { program := "ytmepokefmpcnnaa", sum := "b60f9942117e4285638e4f257f81dc0a68063ea2a779ce0cdea5410b35238f6f", func := "weighbridge/weighbridgelaw27.QueuePlays", spec := "queuePlays", unfollowed := true, recurses := true, apart := false }
def QueuePlaysSaid : Prop := queuePlaysRow.holds Try.pinned (OpenSpec.ofChange queuePlaysSpec)

/-- ITS FALSE NEIGHBOUR: 'it returns false'. Refute it at one input. -/
def queuePlaysWrong : ChangeSpec := { name := "queuePlays", fn := fun _ => fun
  | [d1, d2] => { results := [.lit (.bool false)], args := [d1, d2] }
  | _ => none }
def QueuePlaysWrongFalsely : Prop := queuePlaysRow.holds Try.pinned (OpenSpec.ofChange queuePlaysWrong)

/-- 'weighbridgelaw27.QueueNone': WHATEVER THE INPUT: true; the input reads as it did. -/
def queueNoneSpec : ChangeSpec := { name := "queueNone", fn := fun _ => fun
  | [d1, d2] => { results := [.lit (.bool true)], args := [d1, d2] }
  | _ => none }
def queueNoneRow : OpenClaim := { program := "ytmepokefmpcnnaa", sum := "b60f9942117e4285638e4f257f81dc0a68063ea2a779ce0cdea5410b35238f6f", func := "weighbridge/weighbridgelaw27.QueueNone", spec := "queueNone", unfollowed := true, recurses := true, apart := false }
def QueueNoneSaid : Prop := queueNoneRow.holds Try.pinned (OpenSpec.ofChange queueNoneSpec)

/-- ITS FALSE NEIGHBOUR: 'it returns false'. Refute it at one input. -/
def queueNoneWrong : ChangeSpec := { name := "queueNone", fn := fun _ => fun
  | [d1, d2] => { results := [.lit (.bool false)], args := [d1, d2] }
  | _ => none }
def QueueNoneWrongFalsely : Prop := queueNoneRow.holds Try.pinned (OpenSpec.ofChange queueNoneWrong)

/-- 'weighbridgelaw41.HttpHead': WHATEVER THE INPUT: true; the input reads as it did. -/
def httpHeadSpec : ChangeSpec := { name := "httpHead", fn := fun _ => fun
  | [d1, d2, d3, d4] => { results := [.lit (.bool true)], args := [d1, d2, d3, d4] }
  | _ => none }
def httpHeadRow : OpenClaim := { program := "ytmepokefmpcnnaa", sum := "b60f9942117e4285638e4f257f81dc0a68063ea2a779ce0cdea5410b35238f6f", func := "weighbridge/weighbridgelaw41.HttpHead", spec := "httpHead", inPlace := ["internal/bytealg.IndexByteString"], unfollowed := true, recurses := true, apart := false }
def HttpHeadSaid : Prop := httpHeadRow.holds Try.pinned (OpenSpec.ofChange httpHeadSpec)

/-- ITS FALSE NEIGHBOUR: 'it returns false'. Refute it at one input. -/
def httpHeadWrong : ChangeSpec := { name := "httpHead", fn := fun _ => fun
  | [d1, d2, d3, d4] => { results := [.lit (.bool false)], args := [d1, d2, d3, d4] }
  | _ => none }
def HttpHeadWrongFalsely : Prop := httpHeadRow.holds Try.pinned (OpenSpec.ofChange httpHeadWrong)

/-- 'weighbridgelaw41.HttpNone': WHATEVER THE INPUT: true; the input reads as it did. -/
def httpNoneSpec : ChangeSpec := { name := "httpNone", fn := fun _ => fun
  | [d] => { results := [.lit (.bool true)], args := [d] }
  | _ => none }
def httpNoneRow : OpenClaim := { program := "ytmepokefmpcnnaa", sum := "b60f9942117e4285638e4f257f81dc0a68063ea2a779ce0cdea5410b35238f6f", func := "weighbridge/weighbridgelaw41.HttpNone", spec := "httpNone", inPlace := ["internal/bytealg.IndexByteString"], unfollowed := true, recurses := true, apart := false }
def HttpNoneSaid : Prop := httpNoneRow.holds Try.pinned (OpenSpec.ofChange httpNoneSpec)

/-- ITS FALSE NEIGHBOUR: 'it returns false'. Refute it at one input. -/
def httpNoneWrong : ChangeSpec := { name := "httpNone", fn := fun _ => fun
  | [d] => { results := [.lit (.bool false)], args := [d] }
  | _ => none }
def HttpNoneWrongFalsely : Prop := httpNoneRow.holds Try.pinned (OpenSpec.ofChange httpNoneWrong)

/-- 'weighbridgelaw28.DrrFair': WHATEVER THE INPUT: true; the input reads as it did. -/
def drrFairSpec : ChangeSpec := { name := "drrFair", fn := fun _ => fun
  | [d1, d2, d3, d4] => { results := [.lit (.bool true)], args := [d1, d2, d3, d4] }
  | _ => none }
def drrFairRow : OpenClaim := { program := "ytmepokefmpcnnaa", sum := "b60f9942117e4285638e4f257f81dc0a68063ea2a779ce0cdea5410b35238f6f", func := "weighbridge/weighbridgelaw28.DrrFair", spec := "drrFair", inPlace := ["slices.overlaps[string]", "slices.overlaps[int]"], unfollowed := true, recurses := true, apart := false }
def DrrFairSaid : Prop := drrFairRow.holds Try.pinned (OpenSpec.ofChange drrFairSpec)

/-- ITS FALSE NEIGHBOUR: 'it returns false'. Refute it at one input. -/
def drrFairWrong : ChangeSpec := { name := "drrFair", fn := fun _ => fun
  | [d1, d2, d3, d4] => { results := [.lit (.bool false)], args := [d1, d2, d3, d4] }
  | _ => none }
def DrrFairWrongFalsely : Prop := drrFairRow.holds Try.pinned (OpenSpec.ofChange drrFairWrong)

/-- 'weighbridgelaw28.DrrPlays': WHATEVER THE INPUT: true; the input reads as it did. -/
def drrPlaysSpec : ChangeSpec := { name := "drrPlays", fn := fun _ => fun
  | [d] => { results := [.lit (.bool true)], args := [d] }
  | _ => none }
def drrPlaysRow : OpenClaim := { program := "ytmepokefmpcnnaa", sum := "b60f9942117e4285638e4f257f81dc0a68063ea2a779ce0cdea5410b35238f6f", func := "weighbridge/weighbridgelaw28.DrrPlays", spec := "drrPlays", inPlace := ["slices.overlaps[string]", "slices.overlaps[int]"], unfollowed := true, recurses := true, apart := false }
def DrrPlaysSaid : Prop := drrPlaysRow.holds Try.pinned (OpenSpec.ofChange drrPlaysSpec)

/-- ITS FALSE NEIGHBOUR: 'it returns false'. Refute it at one input. -/
def drrPlaysWrong : ChangeSpec := { name := "drrPlays", fn := fun _ => fun
  | [d] => { results := [.lit (.bool false)], args := [d] }
  | _ => none }
def DrrPlaysWrongFalsely : Prop := drrPlaysRow.holds Try.pinned (OpenSpec.ofChange drrPlaysWrong)

/-- 'weighbridgelaw28.DrrNone': WHATEVER THE INPUT: true; the input reads as it did. -/
def drrNoneSpec : ChangeSpec := { name := "drrNone", fn := fun _ => fun
  | [d1, d2] => { results := [.lit (.bool true)], args := [d1, d2] }
  | _ => none }
def drrNoneRow : OpenClaim := { program := "ytmepokefmpcnnaa", sum := "b60f9942117e4285638e4f257f81dc0a68063ea2a779ce0cdea5410b35238f6f", func := "weighbridge/weighbridgelaw28.DrrNone", spec := "drrNone", inPlace := ["slices.overlaps[string]", "slices.overlaps[int]"], unfollowed := true, recurses := true, apart := false }
def DrrNoneSaid : Prop := drrNoneRow.holds Try.pinned (OpenSpec.ofChange drrNoneSpec)

/-- ITS FALSE NEIGHBOUR: 'it returns false'. Refute it at one input. -/
def drrNoneWrong : ChangeSpec := { name := "drrNone", fn := fun _ => fun
  | [d1, d2] => { results := [.lit (.bool false)], args := [d1, d2] }
  | _ => none }
def DrrNoneWrongFalsely : Prop := drrNoneRow.holds Try.pinned (OpenSpec.ofChange drrNoneWrong)

/-- 'weighbridgelaw11.WheelDue': WHATEVER THE INPUT: true; the input reads as it did. -/
def wheelDueSpec : ChangeSpec := { name := "wheelDue", fn := fun _ => fun
  | [d1, d2] => { results := [.lit (.bool true)], args := [d1, d2] }
  | _ => none }
def wheelDueRow : OpenClaim := { program := "ytmepokefmpcnnaa", sum := "b60f9942117e4285638e4f257f81dc0a68063ea2a779ce0cdea5410b35238f6f", func := "weighbridge/weighbridgelaw11.WheelDue", spec := "wheelDue", unfollowed := true, recurses := true, apart := false }
def WheelDueSaid : Prop := wheelDueRow.holds Try.pinned (OpenSpec.ofChange wheelDueSpec)

/-- ITS FALSE NEIGHBOUR: 'it returns false'. Refute it at one input. -/
def wheelDueWrong : ChangeSpec := { name := "wheelDue", fn := fun _ => fun
  | [d1, d2] => { results := [.lit (.bool false)], args := [d1, d2] }
  | _ => none }
def WheelDueWrongFalsely : Prop := wheelDueRow.holds Try.pinned (OpenSpec.ofChange wheelDueWrong)

/-- 'weighbridgelaw25.DrainEnds': WHATEVER THE INPUT: true; the input reads as it did. -/
def drainEndsSpec : ChangeSpec := { name := "drainEnds", fn := fun _ => fun
  | [d1, d2] => { results := [.lit (.bool true)], args := [d1, d2] }
  | _ => none }
def drainEndsRow : OpenClaim := { program := "ytmepokefmpcnnaa", sum := "b60f9942117e4285638e4f257f81dc0a68063ea2a779ce0cdea5410b35238f6f", func := "weighbridge/weighbridgelaw25.DrainEnds", spec := "drainEnds", unfollowed := true, recurses := true, apart := false }
def DrainEndsSaid : Prop := drainEndsRow.holds Try.pinned (OpenSpec.ofChange drainEndsSpec)

/-- ITS FALSE NEIGHBOUR: 'it returns false'. Refute it at one input. -/
def drainEndsWrong : ChangeSpec := { name := "drainEnds", fn := fun _ => fun
  | [d1, d2] => { results := [.lit (.bool false)], args := [d1, d2] }
  | _ => none }
def DrainEndsWrongFalsely : Prop := drainEndsRow.holds Try.pinned (OpenSpec.ofChange drainEndsWrong)

/- THE SECOND FORM. 'bulk': how many values and letters a reading holds, each counted each time it is reached (what is shared counts as often as it is met; a slice's spare places count too). A statement '..UptoSaid' is the law's where the arguments, and the package variables that the reading takes, are together of bulk at most 1048576: NARROWER than '..Said'. Prove '..Said' where nothing that the law and all that it calls make is longer than what came in: it says more and counts as full. Else prove '..UptoSaid'. A law counts once. -/
mutual
def uptoBulk {H : Type} : DataW H → Nat
  | .lit (.string bytes) => bytes.length + 1
  | .lit _ => 1
  | .nil => 1
  | .ptr d => uptoBulk d + 1
  | .slice elems spare => uptoBulkAll elems + uptoBulkAll spare + 1
  | .agg parts => uptoBulkAll parts + 1
  | .iface _ d => uptoBulk d + 1
  | .map entries => uptoBulkEntries entries + 1
  | .held _ => 1
def uptoBulkAll {H : Type} : List (DataW H) → Nat
  | [] => 0
  | d :: r => uptoBulk d + uptoBulkAll r
def uptoBulkEntries {H : Type} : List (Lit × DataW H) → Nat
  | [] => 0
  | x :: r => uptoBulkEntry x + uptoBulkEntries r
def uptoBulkEntry {H : Type} : Lit × DataW H → Nat
  | (.string bytes, d) => bytes.length + uptoBulk d + 1
  | (_, d) => uptoBulk d + 1
 end
def uptoSmall : (H : Type) → List (DataW H) → Bool := fun _ ds => decide (uptoBulkAll ds ≤ 1048576)
def OpenSpec.upto (s : _root_.Go.ChangeSpec) : _root_.Go.OpenSpec := { _root_.Go.OpenSpec.ofChange s with cond := some uptoSmall }

/-- 'weighbridgelaw15.FlowstateCloses', WHERE WHAT IT READS IS OF BULK AT MOST 1048576: true; the input reads as it did. -/
def flowstateClosesUptoRow : OpenClaim := { program := "ytmepokefmpcnnaa", sum := "b60f9942117e4285638e4f257f81dc0a68063ea2a779ce0cdea5410b35238f6f", func := "weighbridge/weighbridgelaw15.FlowstateCloses", spec := "flowstateCloses", unfollowed := true, recurses := true, apart := false, narrowed := true }
def FlowstateClosesUptoSaid : Prop := flowstateClosesUptoRow.holds Try.pinned (OpenSpec.upto flowstateClosesSpec)

/-- 'weighbridgelaw15.FlowstateTells', WHERE WHAT IT READS IS OF BULK AT MOST 1048576: true; the input reads as it did. -/
def flowstateTellsUptoRow : OpenClaim := { program := "ytmepokefmpcnnaa", sum := "b60f9942117e4285638e4f257f81dc0a68063ea2a779ce0cdea5410b35238f6f", func := "weighbridge/weighbridgelaw15.FlowstateTells", spec := "flowstateTells", unfollowed := true, recurses := true, apart := false, narrowed := true }
def FlowstateTellsUptoSaid : Prop := flowstateTellsUptoRow.holds Try.pinned (OpenSpec.upto flowstateTellsSpec)

/-- 'weighbridgelaw27.QueueOrder', WHERE WHAT IT READS IS OF BULK AT MOST 1048576: true; the input reads as it did. -/
def queueOrderUptoRow : OpenClaim := { program := "ytmepokefmpcnnaa", sum := "b60f9942117e4285638e4f257f81dc0a68063ea2a779ce0cdea5410b35238f6f", func := "weighbridge/weighbridgelaw27.QueueOrder", spec := "queueOrder", unfollowed := true, recurses := true, apart := false, narrowed := true }
def QueueOrderUptoSaid : Prop := queueOrderUptoRow.holds Try.pinned (OpenSpec.upto queueOrderSpec)

/-- 'weighbridgelaw27.QueuePlays', WHERE WHAT IT READS IS OF BULK AT MOST 1048576: true; the input reads as it did. -/
def queuePlaysUptoRow : OpenClaim := { program := "ytmepokefmpcnnaa", sum := "b60f9942117e4285638e4f257f81dc0a68063ea2a779ce0cdea5410b35238f6f", func := "weighbridge/weighbridgelaw27.QueuePlays", spec := "queuePlays", unfollowed := true, recurses := true, apart := false, narrowed := true }
def QueuePlaysUptoSaid : Prop := queuePlaysUptoRow.holds Try.pinned (OpenSpec.upto queuePlaysSpec)

/-- 'weighbridgelaw27.QueueNone', WHERE WHAT IT READS IS OF BULK AT MOST 1048576: true; the input reads as it did. -/
def queueNoneUptoRow : OpenClaim := { program := "ytmepokefmpcnnaa", sum := "b60f9942117e4285638e4f257f81dc0a68063ea2a779ce0cdea5410b35238f6f", func := "weighbridge/weighbridgelaw27.QueueNone", spec := "queueNone", unfollowed := true, recurses := true, apart := false, narrowed := true }
def QueueNoneUptoSaid : Prop := queueNoneUptoRow.holds Try.pinned (OpenSpec.upto queueNoneSpec)

/-- 'weighbridgelaw41.HttpHead', WHERE WHAT IT READS IS OF BULK AT MOST 1048576: true; the input reads as it did. -/
def httpHeadUptoRow : OpenClaim := { program := "ytmepokefmpcnnaa", sum := "b60f9942117e4285638e4f257f81dc0a68063ea2a779ce0cdea5410b35238f6f", func := "weighbridge/weighbridgelaw41.HttpHead", spec := "httpHead", inPlace := ["internal/bytealg.IndexByteString"], unfollowed := true, recurses := true, apart := false, narrowed := true }
def HttpHeadUptoSaid : Prop := httpHeadUptoRow.holds Try.pinned (OpenSpec.upto httpHeadSpec)

/-- 'weighbridgelaw41.HttpNone', WHERE WHAT IT READS IS OF BULK AT MOST 1048576: true; the input reads as it did. -/
def httpNoneUptoRow : OpenClaim := { program := "ytmepokefmpcnnaa", sum := "b60f9942117e4285638e4f257f81dc0a68063ea2a779ce0cdea5410b35238f6f", func := "weighbridge/weighbridgelaw41.HttpNone", spec := "httpNone", inPlace := ["internal/bytealg.IndexByteString"], unfollowed := true, recurses := true, apart := false, narrowed := true }
def HttpNoneUptoSaid : Prop := httpNoneUptoRow.holds Try.pinned (OpenSpec.upto httpNoneSpec)

/-- 'weighbridgelaw28.DrrFair', WHERE WHAT IT READS IS OF BULK AT MOST 1048576: true; the input reads as it did. -/
def drrFairUptoRow : OpenClaim := { program := "ytmepokefmpcnnaa", sum := "b60f9942117e4285638e4f257f81dc0a68063ea2a779ce0cdea5410b35238f6f", func := "weighbridge/weighbridgelaw28.DrrFair", spec := "drrFair", inPlace := ["slices.overlaps[string]", "slices.overlaps[int]"], unfollowed := true, recurses := true, apart := false, narrowed := true }
def DrrFairUptoSaid : Prop := drrFairUptoRow.holds Try.pinned (OpenSpec.upto drrFairSpec)

/-- 'weighbridgelaw28.DrrPlays', WHERE WHAT IT READS IS OF BULK AT MOST 1048576: true; the input reads as it did. -/
def drrPlaysUptoRow : OpenClaim := { program := "ytmepokefmpcnnaa", sum := "b60f9942117e4285638e4f257f81dc0a68063ea2a779ce0cdea5410b35238f6f", func := "weighbridge/weighbridgelaw28.DrrPlays", spec := "drrPlays", inPlace := ["slices.overlaps[string]", "slices.overlaps[int]"], unfollowed := true, recurses := true, apart := false, narrowed := true }
def DrrPlaysUptoSaid : Prop := drrPlaysUptoRow.holds Try.pinned (OpenSpec.upto drrPlaysSpec)

/-- 'weighbridgelaw28.DrrNone', WHERE WHAT IT READS IS OF BULK AT MOST 1048576: true; the input reads as it did. -/
def drrNoneUptoRow : OpenClaim := { program := "ytmepokefmpcnnaa", sum := "b60f9942117e4285638e4f257f81dc0a68063ea2a779ce0cdea5410b35238f6f", func := "weighbridge/weighbridgelaw28.DrrNone", spec := "drrNone", inPlace := ["slices.overlaps[string]", "slices.overlaps[int]"], unfollowed := true, recurses := true, apart := false, narrowed := true }
def DrrNoneUptoSaid : Prop := drrNoneUptoRow.holds Try.pinned (OpenSpec.upto drrNoneSpec)

/-- 'weighbridgelaw11.WheelDue', WHERE WHAT IT READS IS OF BULK AT MOST 1048576: true; the input reads as it did. -/
def wheelDueUptoRow : OpenClaim := { program := "ytmepokefmpcnnaa", sum := "b60f9942117e4285638e4f257f81dc0a68063ea2a779ce0cdea5410b35238f6f", func := "weighbridge/weighbridgelaw11.WheelDue", spec := "wheelDue", unfollowed := true, recurses := true, apart := false, narrowed := true }
def WheelDueUptoSaid : Prop := wheelDueUptoRow.holds Try.pinned (OpenSpec.upto wheelDueSpec)

/-- 'weighbridgelaw25.DrainEnds', WHERE WHAT IT READS IS OF BULK AT MOST 1048576: true; the input reads as it did. -/
def drainEndsUptoRow : OpenClaim := { program := "ytmepokefmpcnnaa", sum := "b60f9942117e4285638e4f257f81dc0a68063ea2a779ce0cdea5410b35238f6f", func := "weighbridge/weighbridgelaw25.DrainEnds", spec := "drainEnds", unfollowed := true, recurses := true, apart := false, narrowed := true }
def DrainEndsUptoSaid : Prop := drainEndsUptoRow.holds Try.pinned (OpenSpec.upto drainEndsSpec)

end Rows
end Go.Proofs.Ytmepokefmpcnnaa
