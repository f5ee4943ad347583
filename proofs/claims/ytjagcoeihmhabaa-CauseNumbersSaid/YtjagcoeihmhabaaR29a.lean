/- The law CauseNumbers returns true for every input and leaves its arguments as they were. -/
import Derived.Test.YtjagcoeihmhabaaRows
import Derived.WalkKit
import Derived.ProofKit
import Derived.OpenShut
import Derived.ShutString
import Derived.ChangeOld
import Derived.Below
import Derived.SizedLaws
import Derived.Test.YtjagcoeihmhabaaEngG
import Derived.Test.YtjagcoeihmhabaaL29c
set_option linter.unusedVariables false
namespace Go.Proofs.Ytjagcoeihmhabaa
open Go.Ab (RdI encI CauseNumbers_spec)
theorem dec_int {w : World} {cs : List Value} (h : Go.Eng.Cs [.i .i64] cs) : ∃ x : Int, cs.length = 1 ∧ Go.Eng.Flat Go.Ab.encI w cs x := by
  obtain ⟨v1, c1, rfl, h1, h⟩ := Go.Eng.cs_cons h
  obtain rfl := Go.Eng.cs_nil h
  obtain ⟨z1, rfl, _⟩ := Go.Eng.bk_i h1
  exact ⟨z1, rfl, rfl⟩
namespace causeNumbers
open Go.ChangeShapes Go.WideShapes Go.ChangeAt Go.RowKit Go.Eng
open Go.ChangeMaps (open_string shut_string)
theorem own : ownKnob Try.prog.godebug = none := by kernel_rfl
theorem laidOut : laidOutB Try.prog = true := by kernel_rfl
set_option maxRecDepth 100000 in
theorem lifted (os : Os) (started : os.Started) (H : Type) (enc : TypeId × Value → H) :
    ReturnsInHanded {} Try.checked os 3 .any (Rows.causeNumbersSpec.pre6 enc Try.prog Try.f3 Rows.causeNumbersRow.domain false) (Rows.causeNumbersSpec.post enc Try.prog Try.f3 false true false false) := by
  refine returnsInHanded_of_change_sized (C := Try.checked) own started (by kernel_rfl) Try.func3
    (ChangeSpec.witness6 (enc := enc) (C := Try.checked) false ⟨#[], #[.slice none 0 0, .slice none 0 0], []⟩ 8 (by kernel_rfl) (by kernel_rfl) (by kernel_rfl) (by kernel_rfl)) ?_
  intro W base args ds gs before hval0 hW hcnd hsz0 _
  have hsz : (DataW.weightsEach Try.prog (Try.f3.params.toList ++ Rows.causeNumbersSpec.plain.varTypes Try.prog) (ds ++ gs)).all (· ≤ reachBytes) = true := hsz0
  have hval : ∀ (j : Nat) t v, Try.f3.params[j]? = some t → args[j]? = some v → Value.okWide Try.prog W .any base t v := hval0
  have hW' := hW
  obtain ⟨p, q, hA0, hV, rfl, hfz, hnd⟩ := hW
  have hA : DataW.TrodAll enc Try.prog W 0 (fun _ => true) true Try.f3.params.toList args.toList ds p := hA0
  rw [Try.params3] at hA hval hsz
  obtain ⟨v0, vs0, d0, ds0, p0, q0, hargs, rfl, rfl, h0, r0⟩ := trodAll_cons hA
  obtain ⟨v1, vs1, d1, ds1, p1, q1, rfl, rfl, rfl, h1, r1⟩ := trodAll_cons r0
  obtain ⟨rfl, rfl, rfl⟩ := trodAll_nil r1
  obtain rfl : args = #[v0, v1] := by cases args; simp_all
  obtain ⟨rfl, rfl⟩ := trodVars_none hV
  obtain ⟨a0, len0, cap0, rfl⟩ := okWide_slice Try.underlying22 (hval 0 22 v0 rfl rfl)
  have lt0 : ∀ x ∈ p0, x.block < W.heap.size := by obtain ⟨m, hm⟩ := h0; exact DataW.trod_lt m _ _ _ hm
  obtain ⟨x0, w0, wc0⟩ : ∃ xs, RdI W a0 len0 xs ∧ len0 ≤ cap0 := by
    refine rd_arg hsz (j := 0) (t := 22) rfl rfl Try.underlying22 (e := 3) (sz := 1) (B := 8) (by kernel_rfl) (by kernel_rfl) rfl rfl (fun n cs y h => ?_) h0
    exact dec_int (dec_one (k := .i .i64) (by kernel_rfl) h)
  obtain ⟨a1, len1, cap1, rfl⟩ := okWide_slice Try.underlying22 (hval 1 22 v1 rfl rfl)
  have lt1 : ∀ x ∈ p1, x.block < W.heap.size := by obtain ⟨m, hm⟩ := h1; exact DataW.trod_lt m _ _ _ hm
  obtain ⟨x1, w1, wc1⟩ : ∃ xs, RdI W a1 len1 xs ∧ len1 ≤ cap1 := by
    refine rd_arg hsz (j := 1) (t := 22) rfl rfl Try.underlying22 (e := 3) (sz := 1) (B := 8) (by kernel_rfl) (by kernel_rfl) rfl rfl (fun n cs y h => ?_) h1
    exact dec_int (dec_one (k := .i .i64) (by kernel_rfl) h)
  clear hA0 hval0 hsz0 hsz
  refine (Calls.mono (CauseNumbers_spec w0 w1 wc0 wc1) fun e W' ⟨v, hr, _, hv⟩ => ?_)
  obtain ⟨rfl, bel⟩ := hv
  subst hr
  exact ⟨_, rfl, _, _, _, [], _, [], hW', trodAll_mk1 (shut_bool Try.underlying4 _), (trodAll_cons_mk (Below.trod laidOut (by kernel_rfl) (of_decide_eq_true (by kernel_rfl)) h0 bel lt0) (trodAll_cons_mk (Below.trod laidOut (by kernel_rfl) (of_decide_eq_true (by kernel_rfl)) h1 bel lt1) trodAll_mk0)), rfl, bel.frame _, fun h => by cases h⟩
theorem over : Rows.causeNumbersRow.holds Try.pinned (OpenSpec.ofChange Rows.causeNumbersSpec) :=
  OpenClaim.holds_of_wide 3 Try.f3 rfl rfl rfl rfl rfl rfl rfl ⟨rfl, rfl, rfl, rfl, rfl⟩ rfl rfl rfl rfl rfl (by kernel_rfl) Try.func3 (by kernel_rfl)
    (of_decide_eq_true (by kernel_rfl)) (by unfold Func.isWrapper; first | (rw [if_pos (by decide +kernel)]; kernel_rfl) | (rw [if_neg (by decide +kernel)]; exact ⟨rfl, rfl⟩))
    (fun os started H enc _ => lifted os started H enc)
end causeNumbers
/-- The row. -/
theorem causeNumbers_holds : Rows.CauseNumbersSaid := causeNumbers.over
end Go.Proofs.Ytjagcoeihmhabaa
