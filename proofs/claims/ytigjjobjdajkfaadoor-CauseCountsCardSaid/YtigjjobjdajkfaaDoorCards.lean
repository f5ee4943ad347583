/-
  DERIVED. GIVEN WITH THE SEED: THE CARDS: each row of YtigjjobjdajkfaaDoorRows.lean that lists a variable, with what it lists TIED to the program's text (the seventh form; the later family's looks); each row that meets fmt, with fmt's text TOLD by the authors' own Lean function (tested against real Go, not proved from fmt's source: count such statements apart). THE CARD IS WHAT COUNTS. Prove the row's statement (the work); the ties are given (YtigjjobjdajkfaaDoorTie.lean); close each card by the builder's one call (the guide's Derived/Test/ToyasCard.lean, 'card_holds'). Laid BY PROGRAM, IN A SANDBOX (cutbox-door.mjs). By AI agents, Wed Nov 11 2026. No macro, syntax, notation, axiom, sorry.
-/
import Derived.Test.YtigjjobjdajkfaaDoorRows
import GoSem.ClaimSeven
namespace Go.Proofs.YtigjjobjdajkfaaDoor
namespace Rows

/-- THE TIED CARD OF 'intermedelaw29.CauseCounts'. -/
def causeCountsCard : Claim7 := { stood := { row := causeCountsRow, standIns := [], harness := (true, "9a933cc5e91a2b96664afa4fb535911f83da1ccef3abc7c0fb85b886380b7523"), looks := false }, kinds := [], alts := [], laidByText := true, laidKinds := [.data, .data, .data], laidTests := true, laidLooks := .later }
def CauseCountsCardSaid : Prop := Claim7.holds Tryd.pinned (.plain (OpenSpec.ofChange causeCountsSpec)) causeCountsCard

/-- THE SECOND FORM's CARD OF 'intermedelaw29.CauseCounts'. -/
def causeCountsUptoCard : Claim7 := { stood := { row := causeCountsUptoRow, standIns := [], harness := (true, "9a933cc5e91a2b96664afa4fb535911f83da1ccef3abc7c0fb85b886380b7523"), looks := false }, kinds := [], alts := [], laidByText := true, laidKinds := [.data, .data, .data], laidTests := true, laidLooks := .later }
def CauseCountsUptoCardSaid : Prop := Claim7.holds Tryd.pinned (.plain (OpenSpec.upto causeCountsSpec)) causeCountsUptoCard
end Rows
end Go.Proofs.YtigjjobjdajkfaaDoor
