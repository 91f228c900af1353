/-
  DERIVED. GIVEN WITH THE SEED: THE CARDS: each row of YtconjimbfhpfgaaDoorRows.lean that lists a variable, with what it lists TIED to the program's text (the seventh form; the later family's looks); each row that meets fmt, with fmt's text TOLD by the authors' own Lean function (tested against real Go, not proved from fmt's source: count such statements apart). THE CARD IS WHAT COUNTS. Prove the row's statement (the work); the ties are given (YtconjimbfhpfgaaDoorTie.lean); close each card by the builder's one call (the guide's Derived/Test/ToyasCard.lean, 'card_holds'). Laid BY PROGRAM, IN A SANDBOX (cutbox-door.mjs). By AI agents, Wed Nov 11 2026. No macro, syntax, notation, axiom, sorry.
-/
import Derived.Test.YtconjimbfhpfgaaDoorRows
import GoSem.ClaimSeven
namespace Go.Proofs.YtconjimbfhpfgaaDoor
namespace Rows

/-- THE TIED CARD OF 'maundlaw38.AuditCuts'. -/
def auditCutsCard : Claim7 := { stood := { row := auditCutsRow, standIns := [], harness := (true, "f1ef4d0c3d9cfdbacf5f231ca483b896f7520c8c44c108706c5361583407d4b1"), looks := true }, kinds := [], alts := [], laidByText := true, laidKinds := [.data, .data, .data, .data, .sentinel, .sentinel, .pinned], laidTests := true, laidLooks := .later }
def AuditCutsCardSaid : Prop := Claim7.holds Tryd.pinned (.plain (OpenSpec.ofChange auditCutsSpec)) auditCutsCard

/-- THE TIED CARD OF 'maundlaw38.AuditNobody'. -/
def auditNobodyCard : Claim7 := { stood := { row := auditNobodyRow, standIns := [], harness := (true, "f1ef4d0c3d9cfdbacf5f231ca483b896f7520c8c44c108706c5361583407d4b1"), looks := true }, kinds := [], alts := [], laidByText := true, laidKinds := [.data, .data, .data, .data, .sentinel, .sentinel, .pinned], laidTests := true, laidLooks := .later }
def AuditNobodyCardSaid : Prop := Claim7.holds Tryd.pinned (.plain (OpenSpec.ofChange auditNobodySpec)) auditNobodyCard

/-- THE SECOND FORM's CARD OF 'maundlaw38.AuditCuts'. -/
def auditCutsUptoCard : Claim7 := { stood := { row := auditCutsUptoRow, standIns := [], harness := (true, "f1ef4d0c3d9cfdbacf5f231ca483b896f7520c8c44c108706c5361583407d4b1"), looks := true }, kinds := [], alts := [], laidByText := true, laidKinds := [.data, .data, .data, .data, .sentinel, .sentinel, .pinned], laidTests := true, laidLooks := .later }
def AuditCutsUptoCardSaid : Prop := Claim7.holds Tryd.pinned (.plain (OpenSpec.upto auditCutsSpec)) auditCutsUptoCard

/-- THE SECOND FORM's CARD OF 'maundlaw38.AuditNobody'. -/
def auditNobodyUptoCard : Claim7 := { stood := { row := auditNobodyUptoRow, standIns := [], harness := (true, "f1ef4d0c3d9cfdbacf5f231ca483b896f7520c8c44c108706c5361583407d4b1"), looks := true }, kinds := [], alts := [], laidByText := true, laidKinds := [.data, .data, .data, .data, .sentinel, .sentinel, .pinned], laidTests := true, laidLooks := .later }
def AuditNobodyUptoCardSaid : Prop := Claim7.holds Tryd.pinned (.plain (OpenSpec.upto auditNobodySpec)) auditNobodyUptoCard
end Rows
end Go.Proofs.YtconjimbfhpfgaaDoor
