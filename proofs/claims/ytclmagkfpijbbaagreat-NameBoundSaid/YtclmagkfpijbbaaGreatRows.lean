/-
  No cell of these rows narrows 'for every input' (looked for: loops, veiled, ifaces, maps, wideKeys, modest, calm, conditions, laid).
  DERIVED. THE GIVEN ROWS OF THIS SEAT. 3 by the template 'for every input the law returns true; each argument reads behind the call as it read before'; 0 by the template 'total and deterministic' (their statements: YtclmagkfpijbbaaGreatTotals.lean).
  GIVEN WITH THE SEED: the statements are not yours to turn. If you find one false, say at which input.
  Laid BY PROGRAM, IN A SANDBOX (cutbox-rows.mjs): the forced cells as the released guide's own fill.sh prints them over the translation 15894d4e458b595b… (all of the seat's roots in one cut). By AI agents, Wed Nov 11 2026. No macro, syntax, notation, axiom, sorry.
-/
import Derived.Test.YtclmagkfpijbbaaGreatChecked
import GoSem.Claim
import GoSem.ClaimJoined
import GoSem.ClaimMapViews
import Derived.JoinedTies
import Derived.KernelRfl
namespace Go.Proofs.YtclmagkfpijbbaaGreat
/- THE CELL 'sum', in the pinned program and in every row, IS THE sha256 OF THE DUMP (.gsa) THAT YtclmagkfpijbbaaGreatProg.lean LOADS. Nothing in Lean hashes anything: it is a label: what it is worth is what the hold of that sum in a sandbox is worth. -/
noncomputable def Tryz.pinned : Pinned := { name := "ytclmagkfpijbbaagreat", sum := "15894d4e458b595bf1a0f8875b3565a74925b7a94f118808d3345f4daae13f7b", checked := Tryz.checked }
namespace Rows
def none {H : Type} : Left H := { results := [], args := [] }

/-- 'intermedelaw23.NameSteps': WHATEVER THE INPUT: true; the input reads as it did. -/
def nameStepsSpec : ChangeSpec := { name := "nameSteps", fn := fun _ => fun
  | [d1, d2, d3, d4] => { results := [.lit (.bool true)], args := [d1, d2, d3, d4] }
  | _ => none }
def nameStepsRow : OpenClaim := { program := "ytclmagkfpijbbaagreat", sum := "15894d4e458b595bf1a0f8875b3565a74925b7a94f118808d3345f4daae13f7b", func := "intermede/intermedelaw23.NameSteps", spec := "nameSteps", inPlace := ["internal/abi.NoEscape", "internal/bytealg.MakeNoZero", "internal/bytealg.abigen_runtime_cmpstring"], unfollowed := true, recurses := true, plainKeys := false, apart := false }
def NameStepsSaid : Prop := nameStepsRow.holds Tryz.pinned (OpenSpec.ofChange nameStepsSpec)

/-- ITS FALSE NEIGHBOUR: 'it returns false'. Refute it at one input. -/
def nameStepsWrong : ChangeSpec := { name := "nameSteps", fn := fun _ => fun
  | [d1, d2, d3, d4] => { results := [.lit (.bool false)], args := [d1, d2, d3, d4] }
  | _ => none }
def NameStepsWrongFalsely : Prop := nameStepsRow.holds Tryz.pinned (OpenSpec.ofChange nameStepsWrong)

/-- 'intermedelaw23.NameBound': WHATEVER THE INPUT: true; the input reads as it did. -/
def nameBoundSpec : ChangeSpec := { name := "nameBound", fn := fun _ => fun
  | [d1, d2, d3, d4, d5] => { results := [.lit (.bool true)], args := [d1, d2, d3, d4, d5] }
  | _ => none }
def nameBoundRow : OpenClaim := { program := "ytclmagkfpijbbaagreat", sum := "15894d4e458b595bf1a0f8875b3565a74925b7a94f118808d3345f4daae13f7b", func := "intermede/intermedelaw23.NameBound", spec := "nameBound", inPlace := ["internal/abi.NoEscape", "internal/bytealg.MakeNoZero", "internal/bytealg.abigen_runtime_cmpstring"], unfollowed := true, recurses := true, plainKeys := false, apart := false }
def NameBoundSaid : Prop := nameBoundRow.holds Tryz.pinned (OpenSpec.ofChange nameBoundSpec)

/-- ITS FALSE NEIGHBOUR: 'it returns false'. Refute it at one input. -/
def nameBoundWrong : ChangeSpec := { name := "nameBound", fn := fun _ => fun
  | [d1, d2, d3, d4, d5] => { results := [.lit (.bool false)], args := [d1, d2, d3, d4, d5] }
  | _ => none }
def NameBoundWrongFalsely : Prop := nameBoundRow.holds Tryz.pinned (OpenSpec.ofChange nameBoundWrong)

/-- 'intermedelaw23.NameWays': WHATEVER THE INPUT: true; the input reads as it did. -/
def nameWaysSpec : ChangeSpec := { name := "nameWays", fn := fun _ => fun
  | [d1, d2, d3, d4] => { results := [.lit (.bool true)], args := [d1, d2, d3, d4] }
  | _ => none }
def nameWaysRow : OpenClaim := { program := "ytclmagkfpijbbaagreat", sum := "15894d4e458b595bf1a0f8875b3565a74925b7a94f118808d3345f4daae13f7b", func := "intermede/intermedelaw23.NameWays", spec := "nameWays", inPlace := ["internal/abi.NoEscape", "internal/bytealg.MakeNoZero", "internal/bytealg.abigen_runtime_cmpstring"], unfollowed := true, recurses := true, plainKeys := false, apart := false }
def NameWaysSaid : Prop := nameWaysRow.holds Tryz.pinned (OpenSpec.ofChange nameWaysSpec)

/-- ITS FALSE NEIGHBOUR: 'it returns false'. Refute it at one input. -/
def nameWaysWrong : ChangeSpec := { name := "nameWays", fn := fun _ => fun
  | [d1, d2, d3, d4] => { results := [.lit (.bool false)], args := [d1, d2, d3, d4] }
  | _ => none }
def NameWaysWrongFalsely : Prop := nameWaysRow.holds Tryz.pinned (OpenSpec.ofChange nameWaysWrong)

/- THE SECOND FORM. 'bulk': how many values and letters a reading holds, each counted each time it is reached (what is shared counts as often as it is met; a slice's spare places count too). A statement '..UptoSaid' is the law's where the arguments, and the package variables that the reading takes, are together of bulk at most 1048576: NARROWER than '..Said'. Prove '..Said' where nothing that the law and all that it calls make is longer than what came in: it says more and counts as full. Else prove '..UptoSaid'. A law counts once. -/
mutual
def uptoBulk {H : Type} : DataW H → Nat
  | .lit (.string bytes) => bytes.length + 1
  | .lit _ => 1
  | .nil => 1
  | .ptr d => uptoBulk d + 1
  | .slice elems spare => uptoBulkAll elems + uptoBulkAll spare + 1
  | .agg parts => uptoBulkAll parts + 1
  | .iface _ d => uptoBulk d + 1
  | .map entries => uptoBulkEntries entries + 1
  | .held _ => 1
def uptoBulkAll {H : Type} : List (DataW H) → Nat
  | [] => 0
  | d :: r => uptoBulk d + uptoBulkAll r
def uptoBulkEntries {H : Type} : List (Lit × DataW H) → Nat
  | [] => 0
  | x :: r => uptoBulkEntry x + uptoBulkEntries r
def uptoBulkEntry {H : Type} : Lit × DataW H → Nat
  | (.string bytes, d) => bytes.length + uptoBulk d + 1
  | (_, d) => uptoBulk d + 1
 end
def uptoSmall : (H : Type) → List (DataW H) → Bool := fun _ ds => decide (uptoBulkAll ds ≤ 1048576)
def OpenSpec.upto (s : _root_.Go.ChangeSpec) : _root_.Go.OpenSpec := { _root_.Go.OpenSpec.ofChange s with cond := some uptoSmall }

/-- 'intermedelaw23.NameSteps', WHERE WHAT IT READS IS OF BULK AT MOST 1048576: true; the input reads as it did. -/
def nameStepsUptoRow : OpenClaim := { program := "ytclmagkfpijbbaagreat", sum := "15894d4e458b595bf1a0f8875b3565a74925b7a94f118808d3345f4daae13f7b", func := "intermede/intermedelaw23.NameSteps", spec := "nameSteps", inPlace := ["internal/abi.NoEscape", "internal/bytealg.MakeNoZero", "internal/bytealg.abigen_runtime_cmpstring"], unfollowed := true, recurses := true, plainKeys := false, apart := false, narrowed := true }
def NameStepsUptoSaid : Prop := nameStepsUptoRow.holds Tryz.pinned (OpenSpec.upto nameStepsSpec)

/-- 'intermedelaw23.NameBound', WHERE WHAT IT READS IS OF BULK AT MOST 1048576: true; the input reads as it did. -/
def nameBoundUptoRow : OpenClaim := { program := "ytclmagkfpijbbaagreat", sum := "15894d4e458b595bf1a0f8875b3565a74925b7a94f118808d3345f4daae13f7b", func := "intermede/intermedelaw23.NameBound", spec := "nameBound", inPlace := ["internal/abi.NoEscape", "internal/bytealg.MakeNoZero", "internal/bytealg.abigen_runtime_cmpstring"], unfollowed := true, recurses := true, plainKeys := false, apart := false, narrowed := true }
def NameBoundUptoSaid : Prop := nameBoundUptoRow.holds Tryz.pinned (OpenSpec.upto nameBoundSpec)

/-- 'intermedelaw23.NameWays', WHERE WHAT IT READS IS OF BULK AT MOST 1048576: true; the input reads as it did. -/
def nameWaysUptoRow : OpenClaim := { program := "ytclmagkfpijbbaagreat", sum := "15894d4e458b595bf1a0f8875b3565a74925b7a94f118808d3345f4daae13f7b", func := "intermede/intermedelaw23.NameWays", spec := "nameWays", inPlace := ["internal/abi.NoEscape", "internal/bytealg.MakeNoZero", "internal/bytealg.abigen_runtime_cmpstring"], unfollowed := true, recurses := true, plainKeys := false, apart := false, narrowed := true }
def NameWaysUptoSaid : Prop := nameWaysUptoRow.holds Tryz.pinned (OpenSpec.upto nameWaysSpec)

end Rows
end Go.Proofs.YtclmagkfpijbbaaGreat
