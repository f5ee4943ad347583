/-
  No cell of these rows narrows 'for every input' (looked for: loops, veiled, ifaces, maps, wideKeys, modest, calm, conditions, laid).
  DERIVED. THE GIVEN ROWS OF THIS SEAT. 3 by the template 'for every input the law returns true; each argument reads behind the call as it read before'; 0 by the template 'total and deterministic' (their statements: YtlfdbjcbmecmlaaGreatTotals.lean).
  GIVEN WITH THE SEED: the statements are not yours to turn. If you find one false, say at which input.
  Laid BY PROGRAM, IN A SANDBOX (cutbox-rows.mjs): the forced cells as the released guide's own fill.sh prints them over the translation 368c596b40402199… (all of the seat's roots in one cut). By AI agents, Wed Nov 11 2026. No macro, syntax, notation, axiom, sorry.
-/
import Derived.Test.YtlfdbjcbmecmlaaGreatChecked
import GoSem.Claim
import GoSem.ClaimJoined
import GoSem.ClaimMapViews
import Derived.JoinedTies
import Derived.KernelRfl
namespace Go.Proofs.YtlfdbjcbmecmlaaGreat
/- THE CELL 'sum', in the pinned program and in every row, IS THE sha256 OF THE DUMP (.gsa) THAT YtlfdbjcbmecmlaaGreatProg.lean LOADS. Nothing in Lean hashes anything: it is a label: what it is worth is what the hold of that sum in a sandbox is worth. -/
noncomputable def Tryz.pinned : Pinned := { name := "ytlfdbjcbmecmlaagreat", sum := "368c596b40402199418da876d5233913a775bdae2ce505fe129b87ef31e9c117", checked := Tryz.checked }
namespace Rows
def none {H : Type} : Left H := { results := [], args := [] }

/-- 'intermedelaw31.RelateClosed': WHATEVER THE INPUT: true; the input reads as it did. -/
def relateClosedSpec : ChangeSpec := { name := "relateClosed", fn := fun _ => fun
  | [d1, d2, d3, d4] => { results := [.lit (.bool true)], args := [d1, d2, d3, d4] }
  | _ => none }
def relateClosedRow : OpenClaim := { program := "ytlfdbjcbmecmlaagreat", sum := "368c596b40402199418da876d5233913a775bdae2ce505fe129b87ef31e9c117", func := "intermede/intermedelaw31.RelateClosed", spec := "relateClosed", inPlace := ["maps.clone"], unfollowed := true, recurses := true, apart := false }
def RelateClosedSaid : Prop := relateClosedRow.holds Tryz.pinned (OpenSpec.ofChange relateClosedSpec)

/-- ITS FALSE NEIGHBOUR: 'it returns false'. Refute it at one input. -/
def relateClosedWrong : ChangeSpec := { name := "relateClosed", fn := fun _ => fun
  | [d1, d2, d3, d4] => { results := [.lit (.bool false)], args := [d1, d2, d3, d4] }
  | _ => none }
def RelateClosedWrongFalsely : Prop := relateClosedRow.holds Tryz.pinned (OpenSpec.ofChange relateClosedWrong)

/-- 'intermedelaw31.RelateCopies': WHATEVER THE INPUT: true; the input reads as it did. -/
def relateCopiesSpec : ChangeSpec := { name := "relateCopies", fn := fun _ => fun
  | [d1, d2, d3, d4] => { results := [.lit (.bool true)], args := [d1, d2, d3, d4] }
  | _ => none }
def relateCopiesRow : OpenClaim := { program := "ytlfdbjcbmecmlaagreat", sum := "368c596b40402199418da876d5233913a775bdae2ce505fe129b87ef31e9c117", func := "intermede/intermedelaw31.RelateCopies", spec := "relateCopies", inPlace := ["maps.clone"], unfollowed := true, recurses := true, apart := false }
def RelateCopiesSaid : Prop := relateCopiesRow.holds Tryz.pinned (OpenSpec.ofChange relateCopiesSpec)

/-- ITS FALSE NEIGHBOUR: 'it returns false'. Refute it at one input. -/
def relateCopiesWrong : ChangeSpec := { name := "relateCopies", fn := fun _ => fun
  | [d1, d2, d3, d4] => { results := [.lit (.bool false)], args := [d1, d2, d3, d4] }
  | _ => none }
def RelateCopiesWrongFalsely : Prop := relateCopiesRow.holds Tryz.pinned (OpenSpec.ofChange relateCopiesWrong)

/-- 'intermedelaw31.RelateRemoves': WHATEVER THE INPUT: true; the input reads as it did. -/
def relateRemovesSpec : ChangeSpec := { name := "relateRemoves", fn := fun _ => fun
  | [d1, d2, d3] => { results := [.lit (.bool true)], args := [d1, d2, d3] }
  | _ => none }
def relateRemovesRow : OpenClaim := { program := "ytlfdbjcbmecmlaagreat", sum := "368c596b40402199418da876d5233913a775bdae2ce505fe129b87ef31e9c117", func := "intermede/intermedelaw31.RelateRemoves", spec := "relateRemoves", inPlace := ["maps.clone"], unfollowed := true, recurses := true, apart := false }
def RelateRemovesSaid : Prop := relateRemovesRow.holds Tryz.pinned (OpenSpec.ofChange relateRemovesSpec)

/-- ITS FALSE NEIGHBOUR: 'it returns false'. Refute it at one input. -/
def relateRemovesWrong : ChangeSpec := { name := "relateRemoves", fn := fun _ => fun
  | [d1, d2, d3] => { results := [.lit (.bool false)], args := [d1, d2, d3] }
  | _ => none }
def RelateRemovesWrongFalsely : Prop := relateRemovesRow.holds Tryz.pinned (OpenSpec.ofChange relateRemovesWrong)

/- THE SECOND FORM. 'bulk': how many values and letters a reading holds, each counted each time it is reached (what is shared counts as often as it is met; a slice's spare places count too). A statement '..UptoSaid' is the law's where the arguments, and the package variables that the reading takes, are together of bulk at most 1048576: NARROWER than '..Said'. Prove '..Said' where nothing that the law and all that it calls make is longer than what came in: it says more and counts as full. Else prove '..UptoSaid'. A law counts once. -/
mutual
def uptoBulk {H : Type} : DataW H → Nat
  | .lit (.string bytes) => bytes.length + 1
  | .lit _ => 1
  | .nil => 1
  | .ptr d => uptoBulk d + 1
  | .slice elems spare => uptoBulkAll elems + uptoBulkAll spare + 1
  | .agg parts => uptoBulkAll parts + 1
  | .iface _ d => uptoBulk d + 1
  | .map entries => uptoBulkEntries entries + 1
  | .held _ => 1
def uptoBulkAll {H : Type} : List (DataW H) → Nat
  | [] => 0
  | d :: r => uptoBulk d + uptoBulkAll r
def uptoBulkEntries {H : Type} : List (Lit × DataW H) → Nat
  | [] => 0
  | x :: r => uptoBulkEntry x + uptoBulkEntries r
def uptoBulkEntry {H : Type} : Lit × DataW H → Nat
  | (.string bytes, d) => bytes.length + uptoBulk d + 1
  | (_, d) => uptoBulk d + 1
 end
def uptoSmall : (H : Type) → List (DataW H) → Bool := fun _ ds => decide (uptoBulkAll ds ≤ 1048576)
def OpenSpec.upto (s : _root_.Go.ChangeSpec) : _root_.Go.OpenSpec := { _root_.Go.OpenSpec.ofChange s with cond := some uptoSmall }

/-- 'intermedelaw31.RelateClosed', WHERE WHAT IT READS IS OF BULK AT MOST 1048576: true; the input reads as it did. -/
def relateClosedUptoRow : OpenClaim := { program := "ytlfdbjcbmecmlaagreat", sum := "368c596b40402199418da876d5233913a775bdae2ce505fe129b87ef31e9c117", func := "intermede/intermedelaw31.RelateClosed", spec := "relateClosed", inPlace := ["maps.clone"], unfollowed := true, recurses := true, apart := false, narrowed := true }
def RelateClosedUptoSaid : Prop := relateClosedUptoRow.holds Tryz.pinned (OpenSpec.upto relateClosedSpec)

/-- 'intermedelaw31.RelateCopies', WHERE WHAT IT READS IS OF BULK AT MOST 1048576: true; the input reads as it did. -/
def relateCopiesUptoRow : OpenClaim := { program := "ytlfdbjcbmecmlaagreat", sum := "368c596b40402199418da876d5233913a775bdae2ce505fe129b87ef31e9c117", func := "intermede/intermedelaw31.RelateCopies", spec := "relateCopies", inPlace := ["maps.clone"], unfollowed := true, recurses := true, apart := false, narrowed := true }
def RelateCopiesUptoSaid : Prop := relateCopiesUptoRow.holds Tryz.pinned (OpenSpec.upto relateCopiesSpec)

/-- 'intermedelaw31.RelateRemoves', WHERE WHAT IT READS IS OF BULK AT MOST 1048576: true; the input reads as it did. -/
def relateRemovesUptoRow : OpenClaim := { program := "ytlfdbjcbmecmlaagreat", sum := "368c596b40402199418da876d5233913a775bdae2ce505fe129b87ef31e9c117", func := "intermede/intermedelaw31.RelateRemoves", spec := "relateRemoves", inPlace := ["maps.clone"], unfollowed := true, recurses := true, apart := false, narrowed := true }
def RelateRemovesUptoSaid : Prop := relateRemovesUptoRow.holds Tryz.pinned (OpenSpec.upto relateRemovesSpec)

end Rows
end Go.Proofs.YtlfdbjcbmecmlaaGreat
