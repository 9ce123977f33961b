/-
  DERIVED. GIVEN WITH THE SEED: THE CARDS: each row of YtophlodlencgiaaDoorRows.lean that lists a variable, with what it lists TIED to the program's text (the seventh form; the later family's looks); each row that meets fmt, with fmt's text TOLD by the authors' own Lean function (tested against real Go, not proved from fmt's source: count such statements apart). THE CARD IS WHAT COUNTS. Prove the row's statement (the work); the ties are given (YtophlodlencgiaaDoorTie.lean); close each card by the builder's one call (the guide's Derived/Test/ToyasCard.lean, 'card_holds'). Laid BY PROGRAM, IN A SANDBOX (cutbox-door.mjs). By AI agents, Wed Nov 11 2026. No macro, syntax, notation, axiom, sorry.
-/
import Derived.Test.YtophlodlencgiaaDoorRows
import GoSem.ClaimSeven
namespace Go.Proofs.YtophlodlencgiaaDoor
namespace Rows

/-- THE TIED CARD OF 'switchyardlaw24.BoundMost'. -/
def boundMostCard : Claim7 := { stood := { row := boundMostRow, standIns := [], harness := (true, "1396f876c009423221fff0bc45e46b9f95c05c901f580631b865e387b2e805bf"), looks := false }, kinds := [], alts := [], laidByText := true, laidKinds := [.data], laidTests := true, laidLooks := .later }
def BoundMostCardSaid : Prop := Claim7.holds Tryd.pinned (.plain (OpenSpec.ofChange boundMostSpec)) boundMostCard

/-- THE TIED CARD OF 'switchyardlaw23.FoeMay'. -/
def foeMayCard : Claim7 := { stood := { row := foeMayRow, standIns := [], harness := (true, "1396f876c009423221fff0bc45e46b9f95c05c901f580631b865e387b2e805bf"), looks := false }, kinds := [], alts := [], laidByText := true, laidKinds := [.data, .data], laidTests := true, laidLooks := .later }
def FoeMayCardSaid : Prop := Claim7.holds Tryd.pinned (.plain (OpenSpec.ofChange foeMaySpec)) foeMayCard

/-- THE TIED CARD OF 'switchyardlaw19.DiaryOwn'. -/
def diaryOwnCard : Claim7 := { stood := { row := diaryOwnRow, standIns := [], harness := (true, "1396f876c009423221fff0bc45e46b9f95c05c901f580631b865e387b2e805bf"), looks := false }, kinds := [], alts := [], laidByText := true, laidKinds := [.data, .data, .data], laidTests := true, laidLooks := .later }
def DiaryOwnCardSaid : Prop := Claim7.holds Tryd.pinned (.plain (OpenSpec.ofChange diaryOwnSpec)) diaryOwnCard

/-- THE TIED CARD OF 'switchyardlaw19.DiaryTells'. -/
def diaryTellsCard : Claim7 := { stood := { row := diaryTellsRow, standIns := [], harness := (true, "1396f876c009423221fff0bc45e46b9f95c05c901f580631b865e387b2e805bf"), looks := false }, kinds := [], alts := [], laidByText := true, laidKinds := [.data, .data, .data], laidTests := true, laidLooks := .later }
def DiaryTellsCardSaid : Prop := Claim7.holds Tryd.pinned (.plain (OpenSpec.ofChange diaryTellsSpec)) diaryTellsCard

/-- THE SECOND FORM's CARD OF 'switchyardlaw24.BoundMost'. -/
def boundMostUptoCard : Claim7 := { stood := { row := boundMostUptoRow, standIns := [], harness := (true, "1396f876c009423221fff0bc45e46b9f95c05c901f580631b865e387b2e805bf"), looks := false }, kinds := [], alts := [], laidByText := true, laidKinds := [.data], laidTests := true, laidLooks := .later }
def BoundMostUptoCardSaid : Prop := Claim7.holds Tryd.pinned (.plain (OpenSpec.upto boundMostSpec)) boundMostUptoCard

/-- THE SECOND FORM's CARD OF 'switchyardlaw23.FoeMay'. -/
def foeMayUptoCard : Claim7 := { stood := { row := foeMayUptoRow, standIns := [], harness := (true, "1396f876c009423221fff0bc45e46b9f95c05c901f580631b865e387b2e805bf"), looks := false }, kinds := [], alts := [], laidByText := true, laidKinds := [.data, .data], laidTests := true, laidLooks := .later }
def FoeMayUptoCardSaid : Prop := Claim7.holds Tryd.pinned (.plain (OpenSpec.upto foeMaySpec)) foeMayUptoCard

/-- THE SECOND FORM's CARD OF 'switchyardlaw19.DiaryOwn'. -/
def diaryOwnUptoCard : Claim7 := { stood := { row := diaryOwnUptoRow, standIns := [], harness := (true, "1396f876c009423221fff0bc45e46b9f95c05c901f580631b865e387b2e805bf"), looks := false }, kinds := [], alts := [], laidByText := true, laidKinds := [.data, .data, .data], laidTests := true, laidLooks := .later }
def DiaryOwnUptoCardSaid : Prop := Claim7.holds Tryd.pinned (.plain (OpenSpec.upto diaryOwnSpec)) diaryOwnUptoCard

/-- THE SECOND FORM's CARD OF 'switchyardlaw19.DiaryTells'. -/
def diaryTellsUptoCard : Claim7 := { stood := { row := diaryTellsUptoRow, standIns := [], harness := (true, "1396f876c009423221fff0bc45e46b9f95c05c901f580631b865e387b2e805bf"), looks := false }, kinds := [], alts := [], laidByText := true, laidKinds := [.data, .data, .data], laidTests := true, laidLooks := .later }
def DiaryTellsUptoCardSaid : Prop := Claim7.holds Tryd.pinned (.plain (OpenSpec.upto diaryTellsSpec)) diaryTellsUptoCard
end Rows
end Go.Proofs.YtophlodlencgiaaDoor
