/-
  No cell of these rows narrows 'for every input' (looked for: loops, veiled, ifaces, maps, wideKeys, modest, calm, conditions, laid).
  DERIVED. THE GIVEN ROWS OF THIS SEAT. 5 by the template 'for every input the law returns true; each argument reads behind the call as it read before'; 0 by the template 'total and deterministic' (their statements: YtjagcoeihmhabaaTotals.lean).
  GIVEN WITH THE SEED: the statements are not yours to turn. If you find one false, say at which input.
  Laid BY PROGRAM, IN A SANDBOX (cutbox-rows.mjs): the forced cells as the released guide's own fill.sh prints them over the translation ed16f304370e3f90… (all of the seat's roots in one cut). By AI agents, Wed Nov 11 2026. No macro, syntax, notation, axiom, sorry.
-/
import Derived.Test.YtjagcoeihmhabaaChecked
import GoSem.Claim
import GoSem.ClaimJoined
import GoSem.ClaimMapViews
import Derived.JoinedTies
import Derived.KernelRfl
namespace Go.Proofs.Ytjagcoeihmhabaa
/- THE CELL 'sum', in the pinned program and in every row, IS THE sha256 OF THE DUMP (.gsa) THAT YtjagcoeihmhabaaProg.lean LOADS. Nothing in Lean hashes anything: it is a label: what it is worth is what the hold of that sum in a sandbox is worth. -/
noncomputable def Try.pinned : Pinned := { name := "ytjagcoeihmhabaa", sum := "ed16f304370e3f90ba5d9d928fbb50f4352f517e138b55676c8a990ce4b7d3de", checked := Try.checked }
namespace Rows
def none {H : Type} : Left H := { results := [], args := [] }

/-- 'intermedelaw29.CauseNumbers': WHATEVER THE INPUT: true; the input reads as it did. -/
def causeNumbersSpec : ChangeSpec := { name := "causeNumbers", fn := fun _ => fun
  | [d1, d2] => { results := [.lit (.bool true)], args := [d1, d2] }
  | _ => none }
def causeNumbersRow : OpenClaim := { program := "ytjagcoeihmhabaa", sum := "ed16f304370e3f90ba5d9d928fbb50f4352f517e138b55676c8a990ce4b7d3de", func := "intermede/intermedelaw29.CauseNumbers", spec := "causeNumbers", unfollowed := true, recurses := true, apart := false }
def CauseNumbersSaid : Prop := causeNumbersRow.holds Try.pinned (OpenSpec.ofChange causeNumbersSpec)

/-- ITS FALSE NEIGHBOUR: 'it returns false'. Refute it at one input. -/
def causeNumbersWrong : ChangeSpec := { name := "causeNumbers", fn := fun _ => fun
  | [d1, d2] => { results := [.lit (.bool false)], args := [d1, d2] }
  | _ => none }
def CauseNumbersWrongFalsely : Prop := causeNumbersRow.holds Try.pinned (OpenSpec.ofChange causeNumbersWrong)

/-- 'intermedelaw29.CauseClocks': WHATEVER THE INPUT: true; the input reads as it did. -/
def causeClocksSpec : ChangeSpec := { name := "causeClocks", fn := fun _ => fun
  | [d1, d2] => { results := [.lit (.bool true)], args := [d1, d2] }
  | _ => none }
def causeClocksRow : OpenClaim := { program := "ytjagcoeihmhabaa", sum := "ed16f304370e3f90ba5d9d928fbb50f4352f517e138b55676c8a990ce4b7d3de", func := "intermede/intermedelaw29.CauseClocks", spec := "causeClocks", unfollowed := true, recurses := true, apart := false }
def CauseClocksSaid : Prop := causeClocksRow.holds Try.pinned (OpenSpec.ofChange causeClocksSpec)

/-- ITS FALSE NEIGHBOUR: 'it returns false'. Refute it at one input. -/
def causeClocksWrong : ChangeSpec := { name := "causeClocks", fn := fun _ => fun
  | [d1, d2] => { results := [.lit (.bool false)], args := [d1, d2] }
  | _ => none }
def CauseClocksWrongFalsely : Prop := causeClocksRow.holds Try.pinned (OpenSpec.ofChange causeClocksWrong)

/-- 'intermedelaw29.CauseBefore': WHATEVER THE INPUT: true; the input reads as it did. -/
def causeBeforeSpec : ChangeSpec := { name := "causeBefore", fn := fun _ => fun
  | [d1, d2, d3, d4] => { results := [.lit (.bool true)], args := [d1, d2, d3, d4] }
  | _ => none }
def causeBeforeRow : OpenClaim := { program := "ytjagcoeihmhabaa", sum := "ed16f304370e3f90ba5d9d928fbb50f4352f517e138b55676c8a990ce4b7d3de", func := "intermede/intermedelaw29.CauseBefore", spec := "causeBefore", unfollowed := true, recurses := true, apart := false }
def CauseBeforeSaid : Prop := causeBeforeRow.holds Try.pinned (OpenSpec.ofChange causeBeforeSpec)

/-- ITS FALSE NEIGHBOUR: 'it returns false'. Refute it at one input. -/
def causeBeforeWrong : ChangeSpec := { name := "causeBefore", fn := fun _ => fun
  | [d1, d2, d3, d4] => { results := [.lit (.bool false)], args := [d1, d2, d3, d4] }
  | _ => none }
def CauseBeforeWrongFalsely : Prop := causeBeforeRow.holds Try.pinned (OpenSpec.ofChange causeBeforeWrong)

/-- 'intermedelaw29.CauseCuts': WHATEVER THE INPUT: true; the input reads as it did. -/
def causeCutsSpec : ChangeSpec := { name := "causeCuts", fn := fun _ => fun
  | [d1, d2, d3, d4, d5] => { results := [.lit (.bool true)], args := [d1, d2, d3, d4, d5] }
  | _ => none }
def causeCutsRow : OpenClaim := { program := "ytjagcoeihmhabaa", sum := "ed16f304370e3f90ba5d9d928fbb50f4352f517e138b55676c8a990ce4b7d3de", func := "intermede/intermedelaw29.CauseCuts", spec := "causeCuts", unfollowed := true, recurses := true, apart := false }
def CauseCutsSaid : Prop := causeCutsRow.holds Try.pinned (OpenSpec.ofChange causeCutsSpec)

/-- ITS FALSE NEIGHBOUR: 'it returns false'. Refute it at one input. -/
def causeCutsWrong : ChangeSpec := { name := "causeCuts", fn := fun _ => fun
  | [d1, d2, d3, d4, d5] => { results := [.lit (.bool false)], args := [d1, d2, d3, d4, d5] }
  | _ => none }
def CauseCutsWrongFalsely : Prop := causeCutsRow.holds Try.pinned (OpenSpec.ofChange causeCutsWrong)

/-- 'intermedelaw29.CauseOrders': WHATEVER THE INPUT: true; the input reads as it did. -/
def causeOrdersSpec : ChangeSpec := { name := "causeOrders", fn := fun _ => fun
  | [d1, d2, d3] => { results := [.lit (.bool true)], args := [d1, d2, d3] }
  | _ => none }
def causeOrdersRow : OpenClaim := { program := "ytjagcoeihmhabaa", sum := "ed16f304370e3f90ba5d9d928fbb50f4352f517e138b55676c8a990ce4b7d3de", func := "intermede/intermedelaw29.CauseOrders", spec := "causeOrders", unfollowed := true, recurses := true, apart := false }
def CauseOrdersSaid : Prop := causeOrdersRow.holds Try.pinned (OpenSpec.ofChange causeOrdersSpec)

/-- ITS FALSE NEIGHBOUR: 'it returns false'. Refute it at one input. -/
def causeOrdersWrong : ChangeSpec := { name := "causeOrders", fn := fun _ => fun
  | [d1, d2, d3] => { results := [.lit (.bool false)], args := [d1, d2, d3] }
  | _ => none }
def CauseOrdersWrongFalsely : Prop := causeOrdersRow.holds Try.pinned (OpenSpec.ofChange causeOrdersWrong)

/- THE SECOND FORM. 'bulk': how many values and letters a reading holds, each counted each time it is reached (what is shared counts as often as it is met; a slice's spare places count too). A statement '..UptoSaid' is the law's where the arguments, and the package variables that the reading takes, are together of bulk at most 1048576: NARROWER than '..Said'. Prove '..Said' where nothing that the law and all that it calls make is longer than what came in: it says more and counts as full. Else prove '..UptoSaid'. A law counts once. -/
mutual
def uptoBulk {H : Type} : DataW H → Nat
  | .lit (.string bytes) => bytes.length + 1
  | .lit _ => 1
  | .nil => 1
  | .ptr d => uptoBulk d + 1
  | .slice elems spare => uptoBulkAll elems + uptoBulkAll spare + 1
  | .agg parts => uptoBulkAll parts + 1
  | .iface _ d => uptoBulk d + 1
  | .map entries => uptoBulkEntries entries + 1
  | .held _ => 1
def uptoBulkAll {H : Type} : List (DataW H) → Nat
  | [] => 0
  | d :: r => uptoBulk d + uptoBulkAll r
def uptoBulkEntries {H : Type} : List (Lit × DataW H) → Nat
  | [] => 0
  | x :: r => uptoBulkEntry x + uptoBulkEntries r
def uptoBulkEntry {H : Type} : Lit × DataW H → Nat
  | (.string bytes, d) => bytes.length + uptoBulk d + 1
  | (_, d) => uptoBulk d + 1
 end
def uptoSmall : (H : Type) → List (DataW H) → Bool := fun _ ds => decide (uptoBulkAll ds ≤ 1048576)
def OpenSpec.upto (s : _root_.Go.ChangeSpec) : _root_.Go.OpenSpec := { _root_.Go.OpenSpec.ofChange s with cond := some uptoSmall }

/-- 'intermedelaw29.CauseNumbers', WHERE WHAT IT READS IS OF BULK AT MOST 1048576: true; the input reads as it did. -/
def causeNumbersUptoRow : OpenClaim := { program := "ytjagcoeihmhabaa", sum := "ed16f304370e3f90ba5d9d928fbb50f4352f517e138b55676c8a990ce4b7d3de", func := "intermede/intermedelaw29.CauseNumbers", spec := "causeNumbers", unfollowed := true, recurses := true, apart := false, narrowed := true }
def CauseNumbersUptoSaid : Prop := causeNumbersUptoRow.holds Try.pinned (OpenSpec.upto causeNumbersSpec)

/-- 'intermedelaw29.CauseClocks', WHERE WHAT IT READS IS OF BULK AT MOST 1048576: true; the input reads as it did. -/
def causeClocksUptoRow : OpenClaim := { program := "ytjagcoeihmhabaa", sum := "ed16f304370e3f90ba5d9d928fbb50f4352f517e138b55676c8a990ce4b7d3de", func := "intermede/intermedelaw29.CauseClocks", spec := "causeClocks", unfollowed := true, recurses := true, apart := false, narrowed := true }
def CauseClocksUptoSaid : Prop := causeClocksUptoRow.holds Try.pinned (OpenSpec.upto causeClocksSpec)

/-- 'intermedelaw29.CauseBefore', WHERE WHAT IT READS IS OF BULK AT MOST 1048576: true; the input reads as it did. -/
def causeBeforeUptoRow : OpenClaim := { program := "ytjagcoeihmhabaa", sum := "ed16f304370e3f90ba5d9d928fbb50f4352f517e138b55676c8a990ce4b7d3de", func := "intermede/intermedelaw29.CauseBefore", spec := "causeBefore", unfollowed := true, recurses := true, apart := false, narrowed := true }
def CauseBeforeUptoSaid : Prop := causeBeforeUptoRow.holds Try.pinned (OpenSpec.upto causeBeforeSpec)

/-- 'intermedelaw29.CauseCuts', WHERE WHAT IT READS IS OF BULK AT MOST 1048576: true; the input reads as it did. -/
def causeCutsUptoRow : OpenClaim := { program := "ytjagcoeihmhabaa", sum := "ed16f304370e3f90ba5d9d928fbb50f4352f517e138b55676c8a990ce4b7d3de", func := "intermede/intermedelaw29.CauseCuts", spec := "causeCuts", unfollowed := true, recurses := true, apart := false, narrowed := true }
def CauseCutsUptoSaid : Prop := causeCutsUptoRow.holds Try.pinned (OpenSpec.upto causeCutsSpec)

/-- 'intermedelaw29.CauseOrders', WHERE WHAT IT READS IS OF BULK AT MOST 1048576: true; the input reads as it did. -/
def causeOrdersUptoRow : OpenClaim := { program := "ytjagcoeihmhabaa", sum := "ed16f304370e3f90ba5d9d928fbb50f4352f517e138b55676c8a990ce4b7d3de", func := "intermede/intermedelaw29.CauseOrders", spec := "causeOrders", unfollowed := true, recurses := true, apart := false, narrowed := true }
def CauseOrdersUptoSaid : Prop := causeOrdersUptoRow.holds Try.pinned (OpenSpec.upto causeOrdersSpec)

end Rows
end Go.Proofs.Ytjagcoeihmhabaa
