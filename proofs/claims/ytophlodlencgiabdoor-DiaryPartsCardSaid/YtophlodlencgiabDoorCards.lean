/-
  DERIVED. GIVEN WITH THE SEED: THE CARDS: each row of YtophlodlencgiabDoorRows.lean that lists a variable, with what it lists TIED to the program's text (the seventh form; the later family's looks); each row that meets fmt, with fmt's text TOLD by the authors' own Lean function (tested against real Go, not proved from fmt's source: count such statements apart). THE CARD IS WHAT COUNTS. Prove the row's statement (the work); the ties are given (YtophlodlencgiabDoorTie.lean); close each card by the builder's one call (the guide's Derived/Test/ToyasCard.lean, 'card_holds'). Laid BY PROGRAM, IN A SANDBOX (cutbox-door.mjs). By AI agents, Wed Nov 11 2026. No macro, syntax, notation, axiom, sorry.
-/
import Derived.Test.YtophlodlencgiabDoorRows
import GoSem.ClaimSeven
namespace Go.Proofs.YtophlodlencgiabDoor
namespace Rows

/-- THE TIED CARD OF 'switchyardlaw19.DiaryRight'. -/
def diaryRightCard : Claim7 := { stood := { row := diaryRightRow, standIns := [], harness := (true, "1bf836e96f1c09c9b6946335fe3623fd6b8d0f68e6b1375720ae206091c47e46"), looks := false }, kinds := [], alts := [], laidByText := true, laidKinds := [.data, .data, .data], laidTests := true, laidLooks := .later }
def DiaryRightCardSaid : Prop := Claim7.holds Tryd.pinned (.plain (OpenSpec.ofChange diaryRightSpec)) diaryRightCard

/-- THE TIED CARD OF 'switchyardlaw19.DiaryParts'. -/
def diaryPartsCard : Claim7 := { stood := { row := diaryPartsRow, standIns := [], harness := (true, "1bf836e96f1c09c9b6946335fe3623fd6b8d0f68e6b1375720ae206091c47e46"), looks := false }, kinds := [], alts := [], laidByText := true, laidKinds := [.data, .data, .data], laidTests := true, laidLooks := .later }
def DiaryPartsCardSaid : Prop := Claim7.holds Tryd.pinned (.plain (OpenSpec.ofChange diaryPartsSpec)) diaryPartsCard

/-- THE SECOND FORM's CARD OF 'switchyardlaw19.DiaryRight'. -/
def diaryRightUptoCard : Claim7 := { stood := { row := diaryRightUptoRow, standIns := [], harness := (true, "1bf836e96f1c09c9b6946335fe3623fd6b8d0f68e6b1375720ae206091c47e46"), looks := false }, kinds := [], alts := [], laidByText := true, laidKinds := [.data, .data, .data], laidTests := true, laidLooks := .later }
def DiaryRightUptoCardSaid : Prop := Claim7.holds Tryd.pinned (.plain (OpenSpec.upto diaryRightSpec)) diaryRightUptoCard

/-- THE SECOND FORM's CARD OF 'switchyardlaw19.DiaryParts'. -/
def diaryPartsUptoCard : Claim7 := { stood := { row := diaryPartsUptoRow, standIns := [], harness := (true, "1bf836e96f1c09c9b6946335fe3623fd6b8d0f68e6b1375720ae206091c47e46"), looks := false }, kinds := [], alts := [], laidByText := true, laidKinds := [.data, .data, .data], laidTests := true, laidLooks := .later }
def DiaryPartsUptoCardSaid : Prop := Claim7.holds Tryd.pinned (.plain (OpenSpec.upto diaryPartsSpec)) diaryPartsUptoCard
end Rows
end Go.Proofs.YtophlodlencgiabDoor
