/-
  No cell of these rows narrows 'for every input' (looked for: loops, veiled, ifaces, maps, wideKeys, modest, calm, conditions, laid).
  DERIVED. THE GIVEN ROWS OF THIS SEAT. 3 by the template 'for every input the law returns true; each argument reads behind the call as it read before'; 0 by the template 'total and deterministic' (their statements: YtkjeebmdipmofaaTotals.lean).
  GIVEN WITH THE SEED: the statements are not yours to turn. If you find one false, say at which input.
  Laid BY PROGRAM, IN A SANDBOX (cutbox-rows.mjs): the forced cells as the released guide's own fill.sh prints them over the translation 4e0abe37622a89e8… (all of the seat's roots in one cut). By AI agents, Wed Nov 11 2026. No macro, syntax, notation, axiom, sorry.
-/
import Derived.Test.YtkjeebmdipmofaaChecked
import GoSem.Claim
import GoSem.ClaimJoined
import GoSem.ClaimMapViews
import Derived.JoinedTies
import Derived.KernelRfl
namespace Go.Proofs.Ytkjeebmdipmofaa
/- THE CELL 'sum', in the pinned program and in every row, IS THE sha256 OF THE DUMP (.gsa) THAT YtkjeebmdipmofaaProg.lean LOADS. Nothing in Lean hashes anything: it is a label: what it is worth is what the hold of that sum in a sandbox is worth. -/
noncomputable def Try.pinned : Pinned := { name := "ytkjeebmdipmofaa", sum := "4e0abe37622a89e80ebf620fc201ff06a759feb166ad72b552f9c1e4f3f1a3e7", checked := Try.checked }
namespace Rows
def none {H : Type} : Left H := { results := [], args := [] }

/-- 'weighbridgelaw11.WheelNone': WHATEVER THE INPUT: true; the input reads as it did. -/
def wheelNoneSpec : ChangeSpec := { name := "wheelNone", fn := fun _ => fun
  | [d1, d2] => { results := [.lit (.bool true)], args := [d1, d2] }
  | _ => none }
def wheelNoneRow : OpenClaim := { program := "ytkjeebmdipmofaa", sum := "4e0abe37622a89e80ebf620fc201ff06a759feb166ad72b552f9c1e4f3f1a3e7", func := "weighbridge/weighbridgelaw11.WheelNone", spec := "wheelNone", unfollowed := true, recurses := true, apart := false }
def WheelNoneSaid : Prop := wheelNoneRow.holds Try.pinned (OpenSpec.ofChange wheelNoneSpec)

/-- ITS FALSE NEIGHBOUR: 'it returns false'. Refute it at one input. -/
def wheelNoneWrong : ChangeSpec := { name := "wheelNone", fn := fun _ => fun
  | [d1, d2] => { results := [.lit (.bool false)], args := [d1, d2] }
  | _ => none }
def WheelNoneWrongFalsely : Prop := wheelNoneRow.holds Try.pinned (OpenSpec.ofChange wheelNoneWrong)

/-- 'weighbridgelaw24.ProbeNone': WHATEVER THE INPUT: true; the input reads as it did. -/
def probeNoneSpec : ChangeSpec := { name := "probeNone", fn := fun _ => fun
  | [d1, d2] => { results := [.lit (.bool true)], args := [d1, d2] }
  | _ => none }
def probeNoneRow : OpenClaim := { program := "ytkjeebmdipmofaa", sum := "4e0abe37622a89e80ebf620fc201ff06a759feb166ad72b552f9c1e4f3f1a3e7", func := "weighbridge/weighbridgelaw24.ProbeNone", spec := "probeNone", unfollowed := true, recurses := true, apart := false }
def ProbeNoneSaid : Prop := probeNoneRow.holds Try.pinned (OpenSpec.ofChange probeNoneSpec)

/-- ITS FALSE NEIGHBOUR: 'it returns false'. Refute it at one input. -/
def probeNoneWrong : ChangeSpec := { name := "probeNone", fn := fun _ => fun
  | [d1, d2] => { results := [.lit (.bool false)], args := [d1, d2] }
  | _ => none }
def ProbeNoneWrongFalsely : Prop := probeNoneRow.holds Try.pinned (OpenSpec.ofChange probeNoneWrong)

/-- 'weighbridgelaw25.DrainNone': WHATEVER THE INPUT: true; the input reads as it did. -/
def drainNoneSpec : ChangeSpec := { name := "drainNone", fn := fun _ => fun
  | [d1, d2] => { results := [.lit (.bool true)], args := [d1, d2] }
  | _ => none }
def drainNoneRow : OpenClaim := { program := "ytkjeebmdipmofaa", sum := "4e0abe37622a89e80ebf620fc201ff06a759feb166ad72b552f9c1e4f3f1a3e7", func := "weighbridge/weighbridgelaw25.DrainNone", spec := "drainNone", inPlace := ["maps.clone"], unfollowed := true, recurses := true, apart := false }
def DrainNoneSaid : Prop := drainNoneRow.holds Try.pinned (OpenSpec.ofChange drainNoneSpec)

/-- ITS FALSE NEIGHBOUR: 'it returns false'. Refute it at one input. -/
def drainNoneWrong : ChangeSpec := { name := "drainNone", fn := fun _ => fun
  | [d1, d2] => { results := [.lit (.bool false)], args := [d1, d2] }
  | _ => none }
def DrainNoneWrongFalsely : Prop := drainNoneRow.holds Try.pinned (OpenSpec.ofChange drainNoneWrong)

/- THE SECOND FORM. 'bulk': how many values and letters a reading holds, each counted each time it is reached (what is shared counts as often as it is met; a slice's spare places count too). A statement '..UptoSaid' is the law's where the arguments, and the package variables that the reading takes, are together of bulk at most 1048576: NARROWER than '..Said'. Prove '..Said' where nothing that the law and all that it calls make is longer than what came in: it says more and counts as full. Else prove '..UptoSaid'. A law counts once. -/
mutual
def uptoBulk {H : Type} : DataW H → Nat
  | .lit (.string bytes) => bytes.length + 1
  | .lit _ => 1
  | .nil => 1
  | .ptr d => uptoBulk d + 1
  | .slice elems spare => uptoBulkAll elems + uptoBulkAll spare + 1
  | .agg parts => uptoBulkAll parts + 1
  | .iface _ d => uptoBulk d + 1
  | .map entries => uptoBulkEntries entries + 1
  | .held _ => 1
def uptoBulkAll {H : Type} : List (DataW H) → Nat
  | [] => 0
  | d :: r => uptoBulk d + uptoBulkAll r
def uptoBulkEntries {H : Type} : List (Lit × DataW H) → Nat
  | [] => 0
  | x :: r => uptoBulkEntry x + uptoBulkEntries r
def uptoBulkEntry {H : Type} : Lit × DataW H → Nat
  | (.string bytes, d) => bytes.length + uptoBulk d + 1
  | (_, d) => uptoBulk d + 1
 end
def uptoSmall : (H : Type) → List (DataW H) → Bool := fun _ ds => decide (uptoBulkAll ds ≤ 1048576)
def OpenSpec.upto (s : _root_.Go.ChangeSpec) : _root_.Go.OpenSpec := { _root_.Go.OpenSpec.ofChange s with cond := some uptoSmall }

/-- 'weighbridgelaw11.WheelNone', WHERE WHAT IT READS IS OF BULK AT MOST 1048576: true; the input reads as it did. -/
def wheelNoneUptoRow : OpenClaim := { program := "ytkjeebmdipmofaa", sum := "4e0abe37622a89e80ebf620fc201ff06a759feb166ad72b552f9c1e4f3f1a3e7", func := "weighbridge/weighbridgelaw11.WheelNone", spec := "wheelNone", unfollowed := true, recurses := true, apart := false, narrowed := true }
def WheelNoneUptoSaid : Prop := wheelNoneUptoRow.holds Try.pinned (OpenSpec.upto wheelNoneSpec)

/-- 'weighbridgelaw24.ProbeNone', WHERE WHAT IT READS IS OF BULK AT MOST 1048576: true; the input reads as it did. -/
def probeNoneUptoRow : OpenClaim := { program := "ytkjeebmdipmofaa", sum := "4e0abe37622a89e80ebf620fc201ff06a759feb166ad72b552f9c1e4f3f1a3e7", func := "weighbridge/weighbridgelaw24.ProbeNone", spec := "probeNone", unfollowed := true, recurses := true, apart := false, narrowed := true }
def ProbeNoneUptoSaid : Prop := probeNoneUptoRow.holds Try.pinned (OpenSpec.upto probeNoneSpec)

/-- 'weighbridgelaw25.DrainNone', WHERE WHAT IT READS IS OF BULK AT MOST 1048576: true; the input reads as it did. -/
def drainNoneUptoRow : OpenClaim := { program := "ytkjeebmdipmofaa", sum := "4e0abe37622a89e80ebf620fc201ff06a759feb166ad72b552f9c1e4f3f1a3e7", func := "weighbridge/weighbridgelaw25.DrainNone", spec := "drainNone", inPlace := ["maps.clone"], unfollowed := true, recurses := true, apart := false, narrowed := true }
def DrainNoneUptoSaid : Prop := drainNoneUptoRow.holds Try.pinned (OpenSpec.upto drainNoneSpec)

end Rows
end Go.Proofs.Ytkjeebmdipmofaa
