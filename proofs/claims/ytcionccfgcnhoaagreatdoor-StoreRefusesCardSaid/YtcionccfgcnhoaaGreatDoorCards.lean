/-
  DERIVED. GIVEN WITH THE SEED: THE CARDS: each row of YtcionccfgcnhoaaGreatDoorRows.lean that lists a variable, with what it lists TIED to the program's text (the seventh form; the later family's looks); each row that meets fmt, with fmt's text TOLD by the authors' own Lean function (tested against real Go, not proved from fmt's source: count such statements apart). THE CARD IS WHAT COUNTS. Prove the row's statement (the work); the ties are given (YtcionccfgcnhoaaGreatDoorTie.lean); close each card by the builder's one call (the guide's Derived/Test/ToyasCard.lean, 'card_holds'). Laid BY PROGRAM, IN A SANDBOX (cutbox-door.mjs). By AI agents, Wed Nov 11 2026. No macro, syntax, notation, axiom, sorry.
-/
import Derived.Test.YtcionccfgcnhoaaGreatDoorRows
import GoSem.ClaimSeven
namespace Go.Proofs.YtcionccfgcnhoaaGreatDoor
namespace Rows

/-- THE TIED CARD OF 'maundlaw18.StoreBegins'. -/
def storeBeginsCard : Claim7 := { stood := { row := storeBeginsRow, standIns := [], harness := (true, "76e4163268686cfb977b99de29cad5b314aa90af9ba7cc6a7321a9e7353e4217"), looks := true }, kinds := [], alts := [], laidByText := true, laidKinds := [.data, .data, .data, .sentinel, .sentinel], laidTests := true, laidLooks := .later }
def StoreBeginsCardSaid : Prop := Claim7.holds Tryz.pinned (.plain (OpenSpec.ofChange storeBeginsSpec)) storeBeginsCard

/-- THE TIED CARD OF 'maundlaw18.StoreRefuses'. -/
def storeRefusesCard : Claim7 := { stood := { row := storeRefusesRow, standIns := [], harness := (true, "76e4163268686cfb977b99de29cad5b314aa90af9ba7cc6a7321a9e7353e4217"), looks := true }, kinds := [], alts := [], laidByText := true, laidKinds := [.data, .data, .data, .sentinel, .sentinel], laidTests := true, laidLooks := .later }
def StoreRefusesCardSaid : Prop := Claim7.holds Tryz.pinned (.plain (OpenSpec.ofChange storeRefusesSpec)) storeRefusesCard

/-- THE SECOND FORM's CARD OF 'maundlaw18.StoreBegins'. -/
def storeBeginsUptoCard : Claim7 := { stood := { row := storeBeginsUptoRow, standIns := [], harness := (true, "76e4163268686cfb977b99de29cad5b314aa90af9ba7cc6a7321a9e7353e4217"), looks := true }, kinds := [], alts := [], laidByText := true, laidKinds := [.data, .data, .data, .sentinel, .sentinel], laidTests := true, laidLooks := .later }
def StoreBeginsUptoCardSaid : Prop := Claim7.holds Tryz.pinned (.plain (OpenSpec.upto storeBeginsSpec)) storeBeginsUptoCard

/-- THE SECOND FORM's CARD OF 'maundlaw18.StoreRefuses'. -/
def storeRefusesUptoCard : Claim7 := { stood := { row := storeRefusesUptoRow, standIns := [], harness := (true, "76e4163268686cfb977b99de29cad5b314aa90af9ba7cc6a7321a9e7353e4217"), looks := true }, kinds := [], alts := [], laidByText := true, laidKinds := [.data, .data, .data, .sentinel, .sentinel], laidTests := true, laidLooks := .later }
def StoreRefusesUptoCardSaid : Prop := Claim7.holds Tryz.pinned (.plain (OpenSpec.upto storeRefusesSpec)) storeRefusesUptoCard
end Rows
end Go.Proofs.YtcionccfgcnhoaaGreatDoor
