/-
  DERIVED. GIVEN WITH THE SEED: THE CARDS: each row of YtigjjobjdajkfabGreatDoorRows.lean that lists a variable, with what it lists TIED to the program's text (the seventh form; the later family's looks); each row that meets fmt, with fmt's text TOLD by the authors' own Lean function (tested against real Go, not proved from fmt's source: count such statements apart). THE CARD IS WHAT COUNTS. Prove the row's statement (the work); the ties are given (YtigjjobjdajkfabGreatDoorTie.lean); close each card by the builder's one call (the guide's Derived/Test/ToyasCard.lean, 'card_holds'). Laid BY PROGRAM, IN A SANDBOX (cutbox-door.mjs). By AI agents, Wed Nov 11 2026. No macro, syntax, notation, axiom, sorry.
-/
import Derived.Test.YtigjjobjdajkfabGreatDoorRows
import GoSem.ClaimSeven
namespace Go.Proofs.YtigjjobjdajkfabGreatDoor
namespace Rows

/-- THE TIED CARD OF 'intermedelaw29.CauseTrees'. -/
def causeTreesCard : Claim7 := { stood := { row := causeTreesRow, standIns := [], harness := (true, "b297684d3eb70aeae070a7446e7197b62fe935fa06404aea41f98a078af762b4"), looks := true }, kinds := [], alts := [], laidByText := true, laidKinds := [.data, .data, .data], laidTests := true, laidLooks := .later }
def CauseTreesCardSaid : Prop := Claim7.holds Tryz.pinned (.plain (OpenSpec.ofChange causeTreesSpec)) causeTreesCard

/-- THE TIED CARD OF 'intermedelaw29.CauseTexts'. -/
def causeTextsCard : Claim7 := { stood := { row := causeTextsRow, standIns := [], harness := (true, "b297684d3eb70aeae070a7446e7197b62fe935fa06404aea41f98a078af762b4"), looks := true }, kinds := [], alts := [], laidByText := true, laidKinds := [.data, .data, .data, .data, .sentinel, .sentinel, .pinned], laidTests := true, laidLooks := .later }
def CauseTextsCardSaid : Prop := Claim7.holds Tryz.pinned (.plain (OpenSpec.ofChange causeTextsSpec)) causeTextsCard

/-- THE SECOND FORM's CARD OF 'intermedelaw29.CauseTrees'. -/
def causeTreesUptoCard : Claim7 := { stood := { row := causeTreesUptoRow, standIns := [], harness := (true, "b297684d3eb70aeae070a7446e7197b62fe935fa06404aea41f98a078af762b4"), looks := true }, kinds := [], alts := [], laidByText := true, laidKinds := [.data, .data, .data], laidTests := true, laidLooks := .later }
def CauseTreesUptoCardSaid : Prop := Claim7.holds Tryz.pinned (.plain (OpenSpec.upto causeTreesSpec)) causeTreesUptoCard

/-- THE SECOND FORM's CARD OF 'intermedelaw29.CauseTexts'. -/
def causeTextsUptoCard : Claim7 := { stood := { row := causeTextsUptoRow, standIns := [], harness := (true, "b297684d3eb70aeae070a7446e7197b62fe935fa06404aea41f98a078af762b4"), looks := true }, kinds := [], alts := [], laidByText := true, laidKinds := [.data, .data, .data, .data, .sentinel, .sentinel, .pinned], laidTests := true, laidLooks := .later }
def CauseTextsUptoCardSaid : Prop := Claim7.holds Tryz.pinned (.plain (OpenSpec.upto causeTextsSpec)) causeTextsUptoCard
end Rows
end Go.Proofs.YtigjjobjdajkfabGreatDoor
