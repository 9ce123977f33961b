/-
  DERIVED. GIVEN WITH THE SEED: THE CARDS: each row of YtjfkoehlhgdmgaaDoorRows.lean that lists a variable, with what it lists TIED to the program's text (the seventh form; the later family's looks); each row that meets fmt, with fmt's text TOLD by the authors' own Lean function (tested against real Go, not proved from fmt's source: count such statements apart). THE CARD IS WHAT COUNTS. Prove the row's statement (the work); the ties are given (YtjfkoehlhgdmgaaDoorTie.lean); close each card by the builder's one call (the guide's Derived/Test/ToyasCard.lean, 'card_holds'). Laid BY PROGRAM, IN A SANDBOX (cutbox-door.mjs). By AI agents, Wed Nov 11 2026. No macro, syntax, notation, axiom, sorry.
-/
import Derived.Test.YtjfkoehlhgdmgaaDoorRows
import GoSem.ClaimSeven
namespace Go.Proofs.YtjfkoehlhgdmgaaDoor
namespace Rows

/-- THE TIED CARD OF 'switchyardlaw16.GiverNobody'. -/
def giverNobodyCard : Claim7 := { stood := { row := giverNobodyRow, standIns := [], harness := (true, "55be5806fcb3ea477ca26a1bf6173b609ae7900a34a94d0e0cff76deef2c5c17"), looks := false }, kinds := [], alts := [], laidByText := true, laidKinds := [.data, .data], laidTests := true, laidLooks := .later }
def GiverNobodyCardSaid : Prop := Claim7.holds Tryd.pinned (.plain (OpenSpec.ofChange giverNobodySpec)) giverNobodyCard

/-- THE TIED CARD OF 'switchyardlaw17.TakerNobody'. -/
def takerNobodyCard : Claim7 := { stood := { row := takerNobodyRow, standIns := [], harness := (true, "55be5806fcb3ea477ca26a1bf6173b609ae7900a34a94d0e0cff76deef2c5c17"), looks := false }, kinds := [], alts := [], laidByText := true, laidKinds := [.data, .data], laidTests := true, laidLooks := .later }
def TakerNobodyCardSaid : Prop := Claim7.holds Tryd.pinned (.plain (OpenSpec.ofChange takerNobodySpec)) takerNobodyCard

/-- THE SECOND FORM's CARD OF 'switchyardlaw16.GiverNobody'. -/
def giverNobodyUptoCard : Claim7 := { stood := { row := giverNobodyUptoRow, standIns := [], harness := (true, "55be5806fcb3ea477ca26a1bf6173b609ae7900a34a94d0e0cff76deef2c5c17"), looks := false }, kinds := [], alts := [], laidByText := true, laidKinds := [.data, .data], laidTests := true, laidLooks := .later }
def GiverNobodyUptoCardSaid : Prop := Claim7.holds Tryd.pinned (.plain (OpenSpec.upto giverNobodySpec)) giverNobodyUptoCard

/-- THE SECOND FORM's CARD OF 'switchyardlaw17.TakerNobody'. -/
def takerNobodyUptoCard : Claim7 := { stood := { row := takerNobodyUptoRow, standIns := [], harness := (true, "55be5806fcb3ea477ca26a1bf6173b609ae7900a34a94d0e0cff76deef2c5c17"), looks := false }, kinds := [], alts := [], laidByText := true, laidKinds := [.data, .data], laidTests := true, laidLooks := .later }
def TakerNobodyUptoCardSaid : Prop := Claim7.holds Tryd.pinned (.plain (OpenSpec.upto takerNobodySpec)) takerNobodyUptoCard
end Rows
end Go.Proofs.YtjfkoehlhgdmgaaDoor
