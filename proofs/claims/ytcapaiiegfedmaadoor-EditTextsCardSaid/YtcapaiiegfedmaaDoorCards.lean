/-
  DERIVED. GIVEN WITH THE SEED: THE CARDS: each row of YtcapaiiegfedmaaDoorRows.lean that lists a variable, with what it lists TIED to the program's text (the seventh form; the later family's looks); each row that meets fmt, with fmt's text TOLD by the authors' own Lean function (tested against real Go, not proved from fmt's source: count such statements apart). THE CARD IS WHAT COUNTS. Prove the row's statement (the work); the ties are given (YtcapaiiegfedmaaDoorTie.lean); close each card by the builder's one call (the guide's Derived/Test/ToyasCard.lean, 'card_holds'). Laid BY PROGRAM, IN A SANDBOX (cutbox-door.mjs). By AI agents, Wed Nov 11 2026. No macro, syntax, notation, axiom, sorry.
-/
import Derived.Test.YtcapaiiegfedmaaDoorRows
import GoSem.ClaimSeven
namespace Go.Proofs.YtcapaiiegfedmaaDoor
namespace Rows

/-- THE TIED CARD OF 'flittinglaw28.EditLines'. -/
def editLinesCard : Claim7 := { stood := { row := editLinesRow, standIns := [], harness := (true, "98b06d708602a589576ff3c8b8a2fe15a76eb9d488357bd0d8a5f7cbe384de2e"), looks := false }, kinds := [], alts := [], laidByText := true, laidKinds := [.data, .pinned], laidTests := true, laidLooks := .later }
def EditLinesCardSaid : Prop := Claim7.holds Tryd.pinned (.plain (OpenSpec.ofChange editLinesSpec)) editLinesCard

/-- THE TIED CARD OF 'flittinglaw28.EditTexts'. -/
def editTextsCard : Claim7 := { stood := { row := editTextsRow, standIns := [], harness := (true, "98b06d708602a589576ff3c8b8a2fe15a76eb9d488357bd0d8a5f7cbe384de2e"), looks := false }, kinds := [], alts := [], laidByText := true, laidKinds := [.data, .pinned], laidTests := true, laidLooks := .later }
def EditTextsCardSaid : Prop := Claim7.holds Tryd.pinned (.plain (OpenSpec.ofChange editTextsSpec)) editTextsCard

/-- THE SECOND FORM's CARD OF 'flittinglaw28.EditLines'. -/
def editLinesUptoCard : Claim7 := { stood := { row := editLinesUptoRow, standIns := [], harness := (true, "98b06d708602a589576ff3c8b8a2fe15a76eb9d488357bd0d8a5f7cbe384de2e"), looks := false }, kinds := [], alts := [], laidByText := true, laidKinds := [.data, .pinned], laidTests := true, laidLooks := .later }
def EditLinesUptoCardSaid : Prop := Claim7.holds Tryd.pinned (.plain (OpenSpec.upto editLinesSpec)) editLinesUptoCard

/-- THE SECOND FORM's CARD OF 'flittinglaw28.EditTexts'. -/
def editTextsUptoCard : Claim7 := { stood := { row := editTextsUptoRow, standIns := [], harness := (true, "98b06d708602a589576ff3c8b8a2fe15a76eb9d488357bd0d8a5f7cbe384de2e"), looks := false }, kinds := [], alts := [], laidByText := true, laidKinds := [.data, .pinned], laidTests := true, laidLooks := .later }
def EditTextsUptoCardSaid : Prop := Claim7.holds Tryd.pinned (.plain (OpenSpec.upto editTextsSpec)) editTextsUptoCard
end Rows
end Go.Proofs.YtcapaiiegfedmaaDoor
