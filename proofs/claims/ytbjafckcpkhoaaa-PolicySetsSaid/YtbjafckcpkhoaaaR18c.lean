/- The law PolicySets returns true for every input and leaves its arguments as they were. -/
import Derived.Test.YtbjafckcpkhoaaaRows
import Derived.WalkKit
import Derived.ProofKit
import Derived.OpenShut
import Derived.ShutString
import Derived.ChangeOld
import Derived.Below
import Derived.SizedLaws
import Derived.Test.YtbjafckcpkhoaaaEng
import Derived.Test.YtbjafckcpkhoaaaS6
set_option linter.unusedVariables false
namespace Go.Proofs.Ytbjafckcpkhoaaa
theorem cs_pol {w : World} {cs : List Value} (h : Go.Eng.Cs [.i .i64, .i .i64] cs) : ∃ x : Go.Eng.Pol, cs.length = 2 ∧ Go.Eng.Flat Go.Eng.encP w cs x := by
  obtain ⟨v1, c1, rfl, h1, h⟩ := Go.Eng.cs_cons h
  obtain ⟨v2, c2, rfl, h2, h⟩ := Go.Eng.cs_cons h
  obtain rfl := Go.Eng.cs_nil h
  obtain ⟨z1, rfl, _⟩ := Go.Eng.bk_i h1
  obtain ⟨z2, rfl, _⟩ := Go.Eng.bk_i h2
  exact ⟨⟨z1, z2⟩, rfl, rfl⟩
namespace policySets
open Go.ChangeShapes Go.WideShapes Go.ChangeAt Go.RowKit Go.Eng
open Go.ChangeMaps (open_string shut_string)
theorem own : ownKnob Try.prog.godebug = none := by kernel_rfl
theorem laidOut : laidOutB Try.prog = true := by kernel_rfl
set_option maxRecDepth 100000 in
theorem lifted (os : Os) (started : os.Started) (H : Type) (enc : TypeId × Value → H) :
    ReturnsInHanded {} Try.checked os 5 .any (Rows.policySetsSpec.pre6 enc Try.prog Try.f5 Rows.policySetsRow.domain false) (Rows.policySetsSpec.post enc Try.prog Try.f5 false true false false) := by
  refine returnsInHanded_of_change_sized (C := Try.checked) own started (by kernel_rfl) Try.func5
    (ChangeSpec.witness6 (enc := enc) (C := Try.checked) false ⟨#[], #[.slice none 0 0, .agg #[.int .i64 0, .int .i64 0], .int .i64 0], []⟩ 8 (by kernel_rfl) (by kernel_rfl) (by kernel_rfl) (by kernel_rfl)) ?_
  intro W base args ds gs before hval0 hW hcnd hsz0 _
  have hsz : (DataW.weightsEach Try.prog (Try.f5.params.toList ++ Rows.policySetsSpec.plain.varTypes Try.prog) (ds ++ gs)).all (· ≤ reachBytes) = true := hsz0
  have hval : ∀ (j : Nat) t v, Try.f5.params[j]? = some t → args[j]? = some v → Value.okWide Try.prog W .any base t v := hval0
  have hW' := hW
  obtain ⟨p, q, hA0, hV, rfl, hfz, hnd⟩ := hW
  have hA : DataW.TrodAll enc Try.prog W 0 (fun _ => true) true Try.f5.params.toList args.toList ds p := hA0
  rw [Try.params5] at hA hval hsz
  obtain ⟨v0, vs0, d0, ds0, p0, q0, hargs, rfl, rfl, h0, r0⟩ := trodAll_cons hA
  obtain ⟨v1, vs1, d1, ds1, p1, q1, rfl, rfl, rfl, h1, r1⟩ := trodAll_cons r0
  obtain ⟨v2, vs2, d2, ds2, p2, q2, rfl, rfl, rfl, h2, r2⟩ := trodAll_cons r1
  obtain ⟨rfl, rfl, rfl⟩ := trodAll_nil r2
  obtain rfl : args = #[v0, v1, v2] := by cases args; simp_all
  obtain ⟨rfl, rfl⟩ := trodVars_none hV
  obtain ⟨a0, len0, cap0, rfl⟩ := okWide_slice Try.underlying22 (hval 0 22 v0 rfl rfl)
  have lt0 : ∀ x ∈ p0, x.block < W.heap.size := by obtain ⟨m, hm⟩ := h0; exact DataW.trod_lt m _ _ _ hm
  obtain ⟨x0, w0, wc0⟩ : ∃ xs, RdP W a0 len0 xs ∧ len0 ≤ cap0 := by
    refine rd_arg hsz (j := 0) (t := 22) rfl rfl Try.underlying22 (e := 46) (sz := 2) (B := 16) (by kernel_rfl) (by kernel_rfl) rfl rfl (fun n cs y h => ?_) h0
    exact cs_pol (dec_struct (ks := [.i .i64, .i .i64]) Try.underlying46 (by kernel_rfl) rfl (by kernel_rfl) h)
  obtain ⟨cs1, rfl, _⟩ := okWide_struct Try.underlying46 (hval 1 46 v1 rfl rfl)
  have hcs1 : ∃ x : Go.Eng.Pol, cs1.toList.length = 2 ∧ Go.Eng.Flat Go.Eng.encP W cs1.toList x := by
    obtain ⟨m, hm⟩ := h1
    exact cs_pol (dec_struct (ks := [.i .i64, .i .i64]) Try.underlying46 (by kernel_rfl) rfl (by kernel_rfl) hm)
  obtain ⟨⟨k1, l1⟩, _, hfl1⟩ := hcs1
  obtain rfl : cs1 = #[.int .i64 k1, .int .i64 l1] := by
    have hz : cs1.toList = [.int .i64 k1, .int .i64 l1] := hfl1
    rw [← Array.toArray_toList (xs := cs1), hz]
  have lt1 : ∀ x ∈ p1, x.block < W.heap.size := by obtain ⟨m, hm⟩ := h1; exact DataW.trod_lt m _ _ _ hm
  obtain ⟨a2, rfl, rfl, rfl, w2⟩ := open_int Try.underlying3 (hval 2 3 v2 rfl rfl) h2
  clear hA0 hval0 hsz0 hsz
  refine (Calls.mono (PolicySets_spec w0 wc0) fun e W' ⟨v, hr, _, hv⟩ => ?_)
  obtain ⟨rfl, bel⟩ := hv
  subst hr
  exact ⟨_, rfl, _, _, _, [], _, [], hW', trodAll_mk1 (shut_bool Try.underlying4 _), (trodAll_cons_mk (Below.trod laidOut (by kernel_rfl) (of_decide_eq_true (by kernel_rfl)) h0 bel lt0) (trodAll_cons_mk (Below.trod laidOut (by kernel_rfl) (of_decide_eq_true (by kernel_rfl)) h1 bel lt1) (trodAll_cons_mk (shut_int Try.underlying3 w2) trodAll_mk0))), rfl, bel.frame _, fun h => by cases h⟩
theorem over : Rows.policySetsRow.holds Try.pinned (OpenSpec.ofChange Rows.policySetsSpec) :=
  OpenClaim.holds_of_wide 5 Try.f5 rfl rfl rfl rfl rfl rfl rfl ⟨rfl, rfl, rfl, rfl, rfl⟩ rfl rfl rfl rfl rfl (by kernel_rfl) Try.func5 (by kernel_rfl)
    (of_decide_eq_true (by kernel_rfl)) (by unfold Func.isWrapper; first | (rw [if_pos (by decide +kernel)]; kernel_rfl) | (rw [if_neg (by decide +kernel)]; exact ⟨rfl, rfl⟩))
    (fun os started H enc _ => lifted os started H enc)
end policySets
/-- The row. -/
theorem policySets_holds : Rows.PolicySetsSaid := policySets.over
end Go.Proofs.Ytbjafckcpkhoaaa
