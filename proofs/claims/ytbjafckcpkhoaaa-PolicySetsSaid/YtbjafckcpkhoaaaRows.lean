/-
  No cell of these rows narrows 'for every input' (looked for: loops, veiled, ifaces, maps, wideKeys, modest, calm, conditions, laid).
  DERIVED. THE GIVEN ROWS OF THIS SEAT. 3 by the template 'for every input the law returns true; each argument reads behind the call as it read before'; 0 by the template 'total and deterministic' (their statements: YtbjafckcpkhoaaaTotals.lean).
  GIVEN WITH THE SEED: the statements are not yours to turn. If you find one false, say at which input.
  Laid BY PROGRAM, IN A SANDBOX (cutbox-rows.mjs): the forced cells as the released guide's own fill.sh prints them over the translation 0370f0f8042b1d24… (all of the seat's roots in one cut). By AI agents, Wed Nov 11 2026. No macro, syntax, notation, axiom, sorry.
-/
import Derived.Test.YtbjafckcpkhoaaaChecked
import GoSem.Claim
import GoSem.ClaimJoined
import GoSem.ClaimMapViews
import Derived.JoinedTies
import Derived.KernelRfl
namespace Go.Proofs.Ytbjafckcpkhoaaa
/- THE CELL 'sum', in the pinned program and in every row, IS THE sha256 OF THE DUMP (.gsa) THAT YtbjafckcpkhoaaaProg.lean LOADS. Nothing in Lean hashes anything: it is a label: what it is worth is what the hold of that sum in a sandbox is worth. -/
noncomputable def Try.pinned : Pinned := { name := "ytbjafckcpkhoaaa", sum := "0370f0f8042b1d24de5fc5fdd734f2e7d9139cdb1e32f2126721941e2d957007", checked := Try.checked }
namespace Rows
def none {H : Type} : Left H := { results := [], args := [] }

/-- 'intermedelaw18.PolicyAgrees': WHATEVER THE INPUT: true; the input reads as it did. -/
def policyAgreesSpec : ChangeSpec := { name := "policyAgrees", fn := fun _ => fun
  | [d1, d2] => { results := [.lit (.bool true)], args := [d1, d2] }
  | _ => none }
def policyAgreesRow : OpenClaim := { program := "ytbjafckcpkhoaaa", sum := "0370f0f8042b1d24de5fc5fdd734f2e7d9139cdb1e32f2126721941e2d957007", func := "intermede/intermedelaw18.PolicyAgrees", spec := "policyAgrees", unfollowed := true, recurses := true, apart := false }
def PolicyAgreesSaid : Prop := policyAgreesRow.holds Try.pinned (OpenSpec.ofChange policyAgreesSpec)

/-- ITS FALSE NEIGHBOUR: 'it returns false'. Refute it at one input. -/
def policyAgreesWrong : ChangeSpec := { name := "policyAgrees", fn := fun _ => fun
  | [d1, d2] => { results := [.lit (.bool false)], args := [d1, d2] }
  | _ => none }
def PolicyAgreesWrongFalsely : Prop := policyAgreesRow.holds Try.pinned (OpenSpec.ofChange policyAgreesWrong)

/-- 'intermedelaw18.PolicyOver': WHATEVER THE INPUT: true; the input reads as it did. -/
def policyOverSpec : ChangeSpec := { name := "policyOver", fn := fun _ => fun
  | [d1, d2, d3] => { results := [.lit (.bool true)], args := [d1, d2, d3] }
  | _ => none }
def policyOverRow : OpenClaim := { program := "ytbjafckcpkhoaaa", sum := "0370f0f8042b1d24de5fc5fdd734f2e7d9139cdb1e32f2126721941e2d957007", func := "intermede/intermedelaw18.PolicyOver", spec := "policyOver", unfollowed := true, recurses := true, apart := false }
def PolicyOverSaid : Prop := policyOverRow.holds Try.pinned (OpenSpec.ofChange policyOverSpec)

/-- ITS FALSE NEIGHBOUR: 'it returns false'. Refute it at one input. -/
def policyOverWrong : ChangeSpec := { name := "policyOver", fn := fun _ => fun
  | [d1, d2, d3] => { results := [.lit (.bool false)], args := [d1, d2, d3] }
  | _ => none }
def PolicyOverWrongFalsely : Prop := policyOverRow.holds Try.pinned (OpenSpec.ofChange policyOverWrong)

/-- 'intermedelaw18.PolicySets': WHATEVER THE INPUT: true; the input reads as it did. -/
def policySetsSpec : ChangeSpec := { name := "policySets", fn := fun _ => fun
  | [d1, d2, d3] => { results := [.lit (.bool true)], args := [d1, d2, d3] }
  | _ => none }
def policySetsRow : OpenClaim := { program := "ytbjafckcpkhoaaa", sum := "0370f0f8042b1d24de5fc5fdd734f2e7d9139cdb1e32f2126721941e2d957007", func := "intermede/intermedelaw18.PolicySets", spec := "policySets", unfollowed := true, recurses := true, apart := false }
def PolicySetsSaid : Prop := policySetsRow.holds Try.pinned (OpenSpec.ofChange policySetsSpec)

/-- ITS FALSE NEIGHBOUR: 'it returns false'. Refute it at one input. -/
def policySetsWrong : ChangeSpec := { name := "policySets", fn := fun _ => fun
  | [d1, d2, d3] => { results := [.lit (.bool false)], args := [d1, d2, d3] }
  | _ => none }
def PolicySetsWrongFalsely : Prop := policySetsRow.holds Try.pinned (OpenSpec.ofChange policySetsWrong)

/- THE SECOND FORM. 'bulk': how many values and letters a reading holds, each counted each time it is reached (what is shared counts as often as it is met; a slice's spare places count too). A statement '..UptoSaid' is the law's where the arguments, and the package variables that the reading takes, are together of bulk at most 1048576: NARROWER than '..Said'. Prove '..Said' where nothing that the law and all that it calls make is longer than what came in: it says more and counts as full. Else prove '..UptoSaid'. A law counts once. -/
mutual
def uptoBulk {H : Type} : DataW H → Nat
  | .lit (.string bytes) => bytes.length + 1
  | .lit _ => 1
  | .nil => 1
  | .ptr d => uptoBulk d + 1
  | .slice elems spare => uptoBulkAll elems + uptoBulkAll spare + 1
  | .agg parts => uptoBulkAll parts + 1
  | .iface _ d => uptoBulk d + 1
  | .map entries => uptoBulkEntries entries + 1
  | .held _ => 1
def uptoBulkAll {H : Type} : List (DataW H) → Nat
  | [] => 0
  | d :: r => uptoBulk d + uptoBulkAll r
def uptoBulkEntries {H : Type} : List (Lit × DataW H) → Nat
  | [] => 0
  | x :: r => uptoBulkEntry x + uptoBulkEntries r
def uptoBulkEntry {H : Type} : Lit × DataW H → Nat
  | (.string bytes, d) => bytes.length + uptoBulk d + 1
  | (_, d) => uptoBulk d + 1
 end
def uptoSmall : (H : Type) → List (DataW H) → Bool := fun _ ds => decide (uptoBulkAll ds ≤ 1048576)
def OpenSpec.upto (s : _root_.Go.ChangeSpec) : _root_.Go.OpenSpec := { _root_.Go.OpenSpec.ofChange s with cond := some uptoSmall }

/-- 'intermedelaw18.PolicyAgrees', WHERE WHAT IT READS IS OF BULK AT MOST 1048576: true; the input reads as it did. -/
def policyAgreesUptoRow : OpenClaim := { program := "ytbjafckcpkhoaaa", sum := "0370f0f8042b1d24de5fc5fdd734f2e7d9139cdb1e32f2126721941e2d957007", func := "intermede/intermedelaw18.PolicyAgrees", spec := "policyAgrees", unfollowed := true, recurses := true, apart := false, narrowed := true }
def PolicyAgreesUptoSaid : Prop := policyAgreesUptoRow.holds Try.pinned (OpenSpec.upto policyAgreesSpec)

/-- 'intermedelaw18.PolicyOver', WHERE WHAT IT READS IS OF BULK AT MOST 1048576: true; the input reads as it did. -/
def policyOverUptoRow : OpenClaim := { program := "ytbjafckcpkhoaaa", sum := "0370f0f8042b1d24de5fc5fdd734f2e7d9139cdb1e32f2126721941e2d957007", func := "intermede/intermedelaw18.PolicyOver", spec := "policyOver", unfollowed := true, recurses := true, apart := false, narrowed := true }
def PolicyOverUptoSaid : Prop := policyOverUptoRow.holds Try.pinned (OpenSpec.upto policyOverSpec)

/-- 'intermedelaw18.PolicySets', WHERE WHAT IT READS IS OF BULK AT MOST 1048576: true; the input reads as it did. -/
def policySetsUptoRow : OpenClaim := { program := "ytbjafckcpkhoaaa", sum := "0370f0f8042b1d24de5fc5fdd734f2e7d9139cdb1e32f2126721941e2d957007", func := "intermede/intermedelaw18.PolicySets", spec := "policySets", unfollowed := true, recurses := true, apart := false, narrowed := true }
def PolicySetsUptoSaid : Prop := policySetsUptoRow.holds Try.pinned (OpenSpec.upto policySetsSpec)

end Rows
end Go.Proofs.Ytbjafckcpkhoaaa
