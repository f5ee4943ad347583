/- The law NameTexts returns true for every input and leaves its arguments as they were. -/
import Derived.Test.YtclmagkfpijbbaaRows
import Derived.WalkKit
import Derived.ProofKit
import Derived.OpenShut
import Derived.ShutString
import Derived.ChangeOld
import Derived.Below
import Derived.SizedLaws
import Derived.Test.YtclmagkfpijbbaaX2
import Derived.Test.YtclmagkfpijbbaaX4
set_option linter.unusedVariables false
namespace Go.Proofs.Ytclmagkfpijbbaa
namespace nameTexts
open Go.ChangeShapes Go.WideShapes Go.ChangeAt Go.RowKit Go.Eng Go.Ab
open Go.ChangeMaps (open_string shut_string)
theorem to9 : TyOf Try.prog .str 9 := .str (by kernel_rfl)
theorem to25 : TyOf Try.prog Y1 25 := .st (fs := Try.prog.fieldsOf 25) (by kernel_rfl) (by kernel_rfl) (fd_cast (l := [(9, 0), (9, 1)]) (by kernel_rfl) (.cons (by kernel_rfl) to9 (.one (by kernel_rfl) to9)))
theorem to22 : TyOf Try.prog (.slice Y1) 22 := .slice (E := 25) (by kernel_rfl) (by kernel_rfl) rfl (by kernel_rfl) to25
theorem own : ownKnob Try.prog.godebug = none := by kernel_rfl
theorem laidOut : laidOutB Try.prog = true := by kernel_rfl
set_option maxRecDepth 100000 in
theorem lifted (os : Os) (started : os.Started) (H : Type) (enc : TypeId × Value → H) :
    ReturnsInHanded {} Try.checked os 3 .any (Rows.nameTextsSpec.pre6 enc Try.prog Try.f3 Rows.nameTextsRow.domain false) (Rows.nameTextsSpec.post enc Try.prog Try.f3 false true false false) := by
  refine returnsInHanded_of_change_sized (C := Try.checked) own started (by kernel_rfl) Try.func3
    (ChangeSpec.witness6 (enc := enc) (C := Try.checked) false ⟨#[], #[.slice none 0 0, .string ByteArray.empty], []⟩ 8 (by kernel_rfl) (by kernel_rfl) (by kernel_rfl) (by kernel_rfl)) ?_
  intro W base args ds gs before hval0 hW hcnd hsz0 _
  have hsz : (DataW.weightsEach Try.prog (Try.f3.params.toList ++ Rows.nameTextsSpec.plain.varTypes Try.prog) (ds ++ gs)).all (· ≤ reachBytes) = true := hsz0
  have hval : ∀ (j : Nat) t v, Try.f3.params[j]? = some t → args[j]? = some v → Value.okWide Try.prog W .any base t v := hval0
  have hW' := hW
  obtain ⟨p, q, hA0, hV, rfl, hfz, hnd⟩ := hW
  have hA : DataW.TrodAll enc Try.prog W 0 (fun _ => true) true Try.f3.params.toList args.toList ds p := hA0
  rw [Try.params3] at hA hval hsz
  obtain ⟨v0, vs0, d0, ds0, p0, q0, hargs, rfl, rfl, h0, r0⟩ := trodAll_cons hA
  obtain ⟨v1, vs1, d1, ds1, p1, q1, rfl, rfl, rfl, h1, r1⟩ := trodAll_cons r0
  obtain ⟨rfl, rfl, rfl⟩ := trodAll_nil r1
  obtain rfl : args = #[v0, v1] := by cases args; simp_all
  obtain ⟨rfl, rfl⟩ := trodVars_none hV
  have lt0 : ∀ x ∈ p0, x.block < W.heap.size := by obtain ⟨m, hm⟩ := h0; exact DataW.trod_lt m _ _ _ hm
  obtain ⟨x0, wf0, rp0⟩ := arg_ty to22 rfl (hval 0 22 v0 rfl rfl) hsz (j := 0) rfl rfl h0
  have lt1 : ∀ x ∈ p1, x.block < W.heap.size := by obtain ⟨m, hm⟩ := h1; exact DataW.trod_lt m _ _ _ hm
  obtain ⟨x1, wf1, rp1⟩ := arg_ty to9 rfl (hval 1 9 v1 rfl rfl) hsz (j := 1) rfl rfl h1
  clear hA0 hval0 hsz0 hsz
  refine (Calls.mono (law_calls (f3_runs (f3_t x0 x1)) (vs := [v0, v1]) (by simp only [RepL]; exact ⟨rp0, rp1, trivial⟩)) fun e W' ⟨v, hr, _, hv⟩ => ?_)
  obtain ⟨rfl, bel⟩ := hv
  subst hr
  exact ⟨_, rfl, _, _, _, [], _, [], hW', trodAll_mk1 (shut_bool Try.underlying4 _), (trodAll_cons_mk (Below.trod laidOut (by kernel_rfl) (of_decide_eq_true (by kernel_rfl)) h0 bel lt0) (trodAll_cons_mk (Below.trod laidOut (by kernel_rfl) (of_decide_eq_true (by kernel_rfl)) h1 bel lt1) trodAll_mk0)), rfl, bel.frame _, fun h => by cases h⟩
theorem over : Rows.nameTextsRow.holds Try.pinned (OpenSpec.ofChange Rows.nameTextsSpec) :=
  OpenClaim.holds_of_wide 3 Try.f3 rfl rfl rfl rfl rfl rfl rfl ⟨rfl, rfl, rfl, rfl, rfl⟩ rfl rfl rfl rfl rfl (by kernel_rfl) Try.func3 (by kernel_rfl)
    (of_decide_eq_true (by kernel_rfl)) (by unfold Func.isWrapper; first | (rw [if_pos (by decide +kernel)]; kernel_rfl) | (rw [if_neg (by decide +kernel)]; exact ⟨rfl, rfl⟩))
    (fun os started H enc _ => lifted os started H enc)
end nameTexts
/-- The row. -/
theorem nameTexts_holds : Rows.NameTextsSaid := nameTexts.over
end Go.Proofs.Ytclmagkfpijbbaa
