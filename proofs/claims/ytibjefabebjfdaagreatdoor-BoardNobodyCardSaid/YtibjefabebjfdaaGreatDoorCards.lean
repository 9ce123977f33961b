/-
  DERIVED. GIVEN WITH THE SEED: THE CARDS: each row of YtibjefabebjfdaaGreatDoorRows.lean that lists a variable, with what it lists TIED to the program's text (the seventh form; the later family's looks); each row that meets fmt, with fmt's text TOLD by the authors' own Lean function (tested against real Go, not proved from fmt's source: count such statements apart). THE CARD IS WHAT COUNTS. Prove the row's statement (the work); the ties are given (YtibjefabebjfdaaGreatDoorTie.lean); close each card by the builder's one call (the guide's Derived/Test/ToyasCard.lean, 'card_holds'). Laid BY PROGRAM, IN A SANDBOX (cutbox-door.mjs). By AI agents, Wed Nov 11 2026. No macro, syntax, notation, axiom, sorry.
-/
import Derived.Test.YtibjefabebjfdaaGreatDoorRows
import GoSem.ClaimSeven
namespace Go.Proofs.YtibjefabebjfdaaGreatDoor
namespace Rows

/-- THE TIED CARD OF 'switchyardlaw22.GhostNobody'. -/
def ghostNobodyCard : Claim7 := { stood := { row := ghostNobodyRow, standIns := [], harness := (true, "994576c0b3697ef012527f7e197f0604ceaa5e0d8679d9317afc58ab5222b5a7"), looks := true }, kinds := [], alts := [], laidByText := true, laidKinds := [.data, .data], laidTests := true, laidLooks := .later }
def GhostNobodyCardSaid : Prop := Claim7.holds Tryz.pinned (.plain (OpenSpec.ofChange ghostNobodySpec)) ghostNobodyCard

/-- THE TIED CARD OF 'switchyardlaw24.BoundNobody'. -/
def boundNobodyCard : Claim7 := { stood := { row := boundNobodyRow, standIns := [], harness := (true, "994576c0b3697ef012527f7e197f0604ceaa5e0d8679d9317afc58ab5222b5a7"), looks := true }, kinds := [], alts := [], laidByText := true, laidKinds := [.data, .data, .data], laidTests := true, laidLooks := .later }
def BoundNobodyCardSaid : Prop := Claim7.holds Tryz.pinned (.plain (OpenSpec.ofChange boundNobodySpec)) boundNobodyCard

/-- THE TIED CARD OF 'switchyardlaw20.BoardNobody'. -/
def boardNobodyCard : Claim7 := { stood := { row := boardNobodyRow, standIns := [], harness := (true, "994576c0b3697ef012527f7e197f0604ceaa5e0d8679d9317afc58ab5222b5a7"), looks := true }, kinds := [], alts := [], laidByText := true, laidKinds := [.data, .data], laidTests := true, laidLooks := .later }
def BoardNobodyCardSaid : Prop := Claim7.holds Tryz.pinned (.plain (OpenSpec.ofChange boardNobodySpec)) boardNobodyCard

/-- THE TIED CARD OF 'switchyardlaw32.DeskNobody'. -/
def deskNobodyCard : Claim7 := { stood := { row := deskNobodyRow, standIns := [], harness := (true, "994576c0b3697ef012527f7e197f0604ceaa5e0d8679d9317afc58ab5222b5a7"), looks := true }, kinds := [], alts := [], laidByText := true, laidKinds := [.data, .data, .data, .data, .data, .sentinel, .sentinel, .widerDeep, .pinned], laidTests := true, laidLooks := .later }
def DeskNobodyCardSaid : Prop := Claim7.holds Tryz.pinned (.plain (OpenSpec.ofChange deskNobodySpec)) deskNobodyCard

/-- THE SECOND FORM's CARD OF 'switchyardlaw22.GhostNobody'. -/
def ghostNobodyUptoCard : Claim7 := { stood := { row := ghostNobodyUptoRow, standIns := [], harness := (true, "994576c0b3697ef012527f7e197f0604ceaa5e0d8679d9317afc58ab5222b5a7"), looks := true }, kinds := [], alts := [], laidByText := true, laidKinds := [.data, .data], laidTests := true, laidLooks := .later }
def GhostNobodyUptoCardSaid : Prop := Claim7.holds Tryz.pinned (.plain (OpenSpec.upto ghostNobodySpec)) ghostNobodyUptoCard

/-- THE SECOND FORM's CARD OF 'switchyardlaw24.BoundNobody'. -/
def boundNobodyUptoCard : Claim7 := { stood := { row := boundNobodyUptoRow, standIns := [], harness := (true, "994576c0b3697ef012527f7e197f0604ceaa5e0d8679d9317afc58ab5222b5a7"), looks := true }, kinds := [], alts := [], laidByText := true, laidKinds := [.data, .data, .data], laidTests := true, laidLooks := .later }
def BoundNobodyUptoCardSaid : Prop := Claim7.holds Tryz.pinned (.plain (OpenSpec.upto boundNobodySpec)) boundNobodyUptoCard

/-- THE SECOND FORM's CARD OF 'switchyardlaw20.BoardNobody'. -/
def boardNobodyUptoCard : Claim7 := { stood := { row := boardNobodyUptoRow, standIns := [], harness := (true, "994576c0b3697ef012527f7e197f0604ceaa5e0d8679d9317afc58ab5222b5a7"), looks := true }, kinds := [], alts := [], laidByText := true, laidKinds := [.data, .data], laidTests := true, laidLooks := .later }
def BoardNobodyUptoCardSaid : Prop := Claim7.holds Tryz.pinned (.plain (OpenSpec.upto boardNobodySpec)) boardNobodyUptoCard

/-- THE SECOND FORM's CARD OF 'switchyardlaw32.DeskNobody'. -/
def deskNobodyUptoCard : Claim7 := { stood := { row := deskNobodyUptoRow, standIns := [], harness := (true, "994576c0b3697ef012527f7e197f0604ceaa5e0d8679d9317afc58ab5222b5a7"), looks := true }, kinds := [], alts := [], laidByText := true, laidKinds := [.data, .data, .data, .data, .data, .sentinel, .sentinel, .widerDeep, .pinned], laidTests := true, laidLooks := .later }
def DeskNobodyUptoCardSaid : Prop := Claim7.holds Tryz.pinned (.plain (OpenSpec.upto deskNobodySpec)) deskNobodyUptoCard
end Rows
end Go.Proofs.YtibjefabebjfdaaGreatDoor
