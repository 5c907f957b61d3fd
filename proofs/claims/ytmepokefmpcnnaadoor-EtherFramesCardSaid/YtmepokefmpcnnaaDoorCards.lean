/-
  DERIVED. GIVEN WITH THE SEED: THE CARDS: each row of YtmepokefmpcnnaaDoorRows.lean that lists a variable, with what it lists TIED to the program's text (the seventh form; the later family's looks); each row that meets fmt, with fmt's text TOLD by the authors' own Lean function (tested against real Go, not proved from fmt's source: count such statements apart). THE CARD IS WHAT COUNTS. Prove the row's statement (the work); the ties are given (YtmepokefmpcnnaaDoorTie.lean); close each card by the builder's one call (the guide's Derived/Test/ToyasCard.lean, 'card_holds'). Laid BY PROGRAM, IN A SANDBOX (cutbox-door.mjs). By AI agents, Wed Nov 11 2026. No macro, syntax, notation, axiom, sorry.
-/
import Derived.Test.YtmepokefmpcnnaaDoorRows
import GoSem.ClaimSeven
namespace Go.Proofs.YtmepokefmpcnnaaDoor
namespace Rows

/-- THE TIED CARD OF 'weighbridgelaw02.EtherTexts'. -/
def etherTextsCard : Claim7 := { stood := { row := etherTextsRow, standIns := [], harness := (true, "65c4d15e254e1bca4f70e706a97e9ea92529609e8790a904c037de15510e5750"), looks := true }, kinds := [], alts := [], laidByText := true, laidKinds := [.data, .data, .data, .data, .sentinel, .sentinel, .pinned], laidTests := true, laidLooks := .later }
def EtherTextsCardSaid : Prop := Claim7.holds Tryd.pinned (.plain (OpenSpec.ofChange etherTextsSpec)) etherTextsCard

/-- THE TIED CARD OF 'weighbridgelaw02.EtherFrames'. -/
def etherFramesCard : Claim7 := { stood := { row := etherFramesRow, standIns := [], harness := (true, "65c4d15e254e1bca4f70e706a97e9ea92529609e8790a904c037de15510e5750"), looks := true }, kinds := [], alts := [], laidByText := true, laidKinds := [.data, .data, .data, .data, .sentinel, .sentinel, .pinned], laidTests := true, laidLooks := .later }
def EtherFramesCardSaid : Prop := Claim7.holds Tryd.pinned (.plain (OpenSpec.ofChange etherFramesSpec)) etherFramesCard

/-- THE TIED CARD OF 'weighbridgelaw02.EtherBack'. -/
def etherBackCard : Claim7 := { stood := { row := etherBackRow, standIns := [], harness := (true, "65c4d15e254e1bca4f70e706a97e9ea92529609e8790a904c037de15510e5750"), looks := true }, kinds := [], alts := [], laidByText := true, laidKinds := [.data, .data, .data, .data, .sentinel, .sentinel, .pinned], laidTests := true, laidLooks := .later }
def EtherBackCardSaid : Prop := Claim7.holds Tryd.pinned (.plain (OpenSpec.ofChange etherBackSpec)) etherBackCard

/-- THE SECOND FORM's CARD OF 'weighbridgelaw02.EtherTexts'. -/
def etherTextsUptoCard : Claim7 := { stood := { row := etherTextsUptoRow, standIns := [], harness := (true, "65c4d15e254e1bca4f70e706a97e9ea92529609e8790a904c037de15510e5750"), looks := true }, kinds := [], alts := [], laidByText := true, laidKinds := [.data, .data, .data, .data, .sentinel, .sentinel, .pinned], laidTests := true, laidLooks := .later }
def EtherTextsUptoCardSaid : Prop := Claim7.holds Tryd.pinned (.plain (OpenSpec.upto etherTextsSpec)) etherTextsUptoCard

/-- THE SECOND FORM's CARD OF 'weighbridgelaw02.EtherFrames'. -/
def etherFramesUptoCard : Claim7 := { stood := { row := etherFramesUptoRow, standIns := [], harness := (true, "65c4d15e254e1bca4f70e706a97e9ea92529609e8790a904c037de15510e5750"), looks := true }, kinds := [], alts := [], laidByText := true, laidKinds := [.data, .data, .data, .data, .sentinel, .sentinel, .pinned], laidTests := true, laidLooks := .later }
def EtherFramesUptoCardSaid : Prop := Claim7.holds Tryd.pinned (.plain (OpenSpec.upto etherFramesSpec)) etherFramesUptoCard

/-- THE SECOND FORM's CARD OF 'weighbridgelaw02.EtherBack'. -/
def etherBackUptoCard : Claim7 := { stood := { row := etherBackUptoRow, standIns := [], harness := (true, "65c4d15e254e1bca4f70e706a97e9ea92529609e8790a904c037de15510e5750"), looks := true }, kinds := [], alts := [], laidByText := true, laidKinds := [.data, .data, .data, .data, .sentinel, .sentinel, .pinned], laidTests := true, laidLooks := .later }
def EtherBackUptoCardSaid : Prop := Claim7.holds Tryd.pinned (.plain (OpenSpec.upto etherBackSpec)) etherBackUptoCard
end Rows
end Go.Proofs.YtmepokefmpcnnaaDoor
