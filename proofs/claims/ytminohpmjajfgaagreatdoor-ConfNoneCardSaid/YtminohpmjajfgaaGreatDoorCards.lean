/-
  DERIVED. GIVEN WITH THE SEED: THE CARDS: each row of YtminohpmjajfgaaGreatDoorRows.lean that lists a variable, with what it lists TIED to the program's text (the seventh form; the later family's looks); each row that meets fmt, with fmt's text TOLD by the authors' own Lean function (tested against real Go, not proved from fmt's source: count such statements apart). THE CARD IS WHAT COUNTS. Prove the row's statement (the work); the ties are given (YtminohpmjajfgaaGreatDoorTie.lean); close each card by the builder's one call (the guide's Derived/Test/ToyasCard.lean, 'card_holds'). Laid BY PROGRAM, IN A SANDBOX (cutbox-door.mjs). By AI agents, Wed Nov 11 2026. No macro, syntax, notation, axiom, sorry.
-/
import Derived.Test.YtminohpmjajfgaaGreatDoorRows
import GoSem.ClaimSeven
namespace Go.Proofs.YtminohpmjajfgaaGreatDoor
namespace Rows

/-- THE TIED CARD OF 'weighbridgelaw26.VipNone'. -/
def vipNoneCard : Claim7 := { stood := { row := vipNoneRow, standIns := [], harness := (true, "a57379dec3d3a62d11dbcd017b5418871e40e316fcea6e8a2a0bd465c335553e"), looks := true }, kinds := [], alts := [], laidByText := true, laidKinds := [.data, .data, .data, .data, .sentinel, .sentinel, .pinned], laidTests := true, laidLooks := .later }
def VipNoneCardSaid : Prop := Claim7.holds Tryz.pinned (.plain (OpenSpec.ofChange vipNoneSpec)) vipNoneCard

/-- THE TIED CARD OF 'weighbridgelaw45.ConfNone'. -/
def confNoneCard : Claim7 := { stood := { row := confNoneRow, standIns := [], harness := (true, "a57379dec3d3a62d11dbcd017b5418871e40e316fcea6e8a2a0bd465c335553e"), looks := true }, kinds := [], alts := [], laidByText := true, laidKinds := [.data, .data, .data, .data, .sentinel, .sentinel, .pinned], laidTests := true, laidLooks := .later }
def ConfNoneCardSaid : Prop := Claim7.holds Tryz.pinned (.plain (OpenSpec.ofChange confNoneSpec)) confNoneCard

/-- THE SECOND FORM's CARD OF 'weighbridgelaw26.VipNone'. -/
def vipNoneUptoCard : Claim7 := { stood := { row := vipNoneUptoRow, standIns := [], harness := (true, "a57379dec3d3a62d11dbcd017b5418871e40e316fcea6e8a2a0bd465c335553e"), looks := true }, kinds := [], alts := [], laidByText := true, laidKinds := [.data, .data, .data, .data, .sentinel, .sentinel, .pinned], laidTests := true, laidLooks := .later }
def VipNoneUptoCardSaid : Prop := Claim7.holds Tryz.pinned (.plain (OpenSpec.upto vipNoneSpec)) vipNoneUptoCard

/-- THE SECOND FORM's CARD OF 'weighbridgelaw45.ConfNone'. -/
def confNoneUptoCard : Claim7 := { stood := { row := confNoneUptoRow, standIns := [], harness := (true, "a57379dec3d3a62d11dbcd017b5418871e40e316fcea6e8a2a0bd465c335553e"), looks := true }, kinds := [], alts := [], laidByText := true, laidKinds := [.data, .data, .data, .data, .sentinel, .sentinel, .pinned], laidTests := true, laidLooks := .later }
def ConfNoneUptoCardSaid : Prop := Claim7.holds Tryz.pinned (.plain (OpenSpec.upto confNoneSpec)) confNoneUptoCard
end Rows
end Go.Proofs.YtminohpmjajfgaaGreatDoor
