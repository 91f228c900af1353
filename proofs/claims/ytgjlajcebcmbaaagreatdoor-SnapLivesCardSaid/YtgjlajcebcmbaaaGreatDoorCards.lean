/-
  DERIVED. GIVEN WITH THE SEED: THE CARDS: each row of YtgjlajcebcmbaaaGreatDoorRows.lean that lists a variable, with what it lists TIED to the program's text (the seventh form; the later family's looks); each row that meets fmt, with fmt's text TOLD by the authors' own Lean function (tested against real Go, not proved from fmt's source: count such statements apart). THE CARD IS WHAT COUNTS. Prove the row's statement (the work); the ties are given (YtgjlajcebcmbaaaGreatDoorTie.lean); close each card by the builder's one call (the guide's Derived/Test/ToyasCard.lean, 'card_holds'). Laid BY PROGRAM, IN A SANDBOX (cutbox-door.mjs). By AI agents, Wed Nov 11 2026. No macro, syntax, notation, axiom, sorry.
-/
import Derived.Test.YtgjlajcebcmbaaaGreatDoorRows
import GoSem.ClaimSeven
namespace Go.Proofs.YtgjlajcebcmbaaaGreatDoor
namespace Rows

/-- THE TIED CARD OF 'maundlaw17.SnapNames'. -/
def snapNamesCard : Claim7 := { stood := { row := snapNamesRow, standIns := [], harness := (true, "432462a6760890ff5b6317c723bc040d82f5040c4ed24369daa3b044e87ecdf8"), looks := true }, kinds := [], alts := [], laidByText := true, laidKinds := [.data, .data, .data, .sentinel, .sentinel], laidTests := true, laidLooks := .later }
def SnapNamesCardSaid : Prop := Claim7.holds Tryz.pinned (.plain (OpenSpec.ofChange snapNamesSpec)) snapNamesCard

/-- THE TIED CARD OF 'maundlaw17.SnapLast'. -/
def snapLastCard : Claim7 := { stood := { row := snapLastRow, standIns := [], harness := (true, "432462a6760890ff5b6317c723bc040d82f5040c4ed24369daa3b044e87ecdf8"), looks := true }, kinds := [], alts := [], laidByText := true, laidKinds := [.data, .data, .data, .sentinel, .sentinel], laidTests := true, laidLooks := .later }
def SnapLastCardSaid : Prop := Claim7.holds Tryz.pinned (.plain (OpenSpec.ofChange snapLastSpec)) snapLastCard

/-- THE TIED CARD OF 'maundlaw17.SnapWhole'. -/
def snapWholeCard : Claim7 := { stood := { row := snapWholeRow, standIns := [], harness := (true, "432462a6760890ff5b6317c723bc040d82f5040c4ed24369daa3b044e87ecdf8"), looks := true }, kinds := [], alts := [], laidByText := true, laidKinds := [.data, .data, .data, .sentinel, .sentinel], laidTests := true, laidLooks := .later }
def SnapWholeCardSaid : Prop := Claim7.holds Tryz.pinned (.plain (OpenSpec.ofChange snapWholeSpec)) snapWholeCard

/-- THE TIED CARD OF 'maundlaw17.SnapLives'. -/
def snapLivesCard : Claim7 := { stood := { row := snapLivesRow, standIns := [], harness := (true, "432462a6760890ff5b6317c723bc040d82f5040c4ed24369daa3b044e87ecdf8"), looks := true }, kinds := [], alts := [], laidByText := true, laidKinds := [.data, .data, .data, .sentinel, .sentinel], laidTests := true, laidLooks := .later }
def SnapLivesCardSaid : Prop := Claim7.holds Tryz.pinned (.plain (OpenSpec.ofChange snapLivesSpec)) snapLivesCard

/-- THE SECOND FORM's CARD OF 'maundlaw17.SnapNames'. -/
def snapNamesUptoCard : Claim7 := { stood := { row := snapNamesUptoRow, standIns := [], harness := (true, "432462a6760890ff5b6317c723bc040d82f5040c4ed24369daa3b044e87ecdf8"), looks := true }, kinds := [], alts := [], laidByText := true, laidKinds := [.data, .data, .data, .sentinel, .sentinel], laidTests := true, laidLooks := .later }
def SnapNamesUptoCardSaid : Prop := Claim7.holds Tryz.pinned (.plain (OpenSpec.upto snapNamesSpec)) snapNamesUptoCard

/-- THE SECOND FORM's CARD OF 'maundlaw17.SnapLast'. -/
def snapLastUptoCard : Claim7 := { stood := { row := snapLastUptoRow, standIns := [], harness := (true, "432462a6760890ff5b6317c723bc040d82f5040c4ed24369daa3b044e87ecdf8"), looks := true }, kinds := [], alts := [], laidByText := true, laidKinds := [.data, .data, .data, .sentinel, .sentinel], laidTests := true, laidLooks := .later }
def SnapLastUptoCardSaid : Prop := Claim7.holds Tryz.pinned (.plain (OpenSpec.upto snapLastSpec)) snapLastUptoCard

/-- THE SECOND FORM's CARD OF 'maundlaw17.SnapWhole'. -/
def snapWholeUptoCard : Claim7 := { stood := { row := snapWholeUptoRow, standIns := [], harness := (true, "432462a6760890ff5b6317c723bc040d82f5040c4ed24369daa3b044e87ecdf8"), looks := true }, kinds := [], alts := [], laidByText := true, laidKinds := [.data, .data, .data, .sentinel, .sentinel], laidTests := true, laidLooks := .later }
def SnapWholeUptoCardSaid : Prop := Claim7.holds Tryz.pinned (.plain (OpenSpec.upto snapWholeSpec)) snapWholeUptoCard

/-- THE SECOND FORM's CARD OF 'maundlaw17.SnapLives'. -/
def snapLivesUptoCard : Claim7 := { stood := { row := snapLivesUptoRow, standIns := [], harness := (true, "432462a6760890ff5b6317c723bc040d82f5040c4ed24369daa3b044e87ecdf8"), looks := true }, kinds := [], alts := [], laidByText := true, laidKinds := [.data, .data, .data, .sentinel, .sentinel], laidTests := true, laidLooks := .later }
def SnapLivesUptoCardSaid : Prop := Claim7.holds Tryz.pinned (.plain (OpenSpec.upto snapLivesSpec)) snapLivesUptoCard
end Rows
end Go.Proofs.YtgjlajcebcmbaaaGreatDoor
