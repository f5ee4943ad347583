/- The law PolicyOver returns true for every input and leaves its arguments as they were. -/
import Derived.Test.YtbjafckcpkhoaaaRows
import Derived.WalkKit
import Derived.ProofKit
import Derived.OpenShut
import Derived.ShutString
import Derived.ChangeOld
import Derived.Below
import Derived.SizedLaws
import Derived.Test.YtbjafckcpkhoaaaEngG
import Derived.Test.YtbjafckcpkhoaaaS18x
set_option linter.unusedVariables false
namespace Go.Proofs.Ytbjafckcpkhoaaa
theorem cs_pol {w : World} {cs : List Value} (h : Go.Eng.Cs [.i .i64, .i .i64] cs) : ∃ x : Go.Eng.Pol, cs.length = 2 ∧ Go.Eng.Flat Go.Eng.encP w cs x := by
  obtain ⟨v1, c1, rfl, h1, h⟩ := Go.Eng.cs_cons h
  obtain ⟨v2, c2, rfl, h2, h⟩ := Go.Eng.cs_cons h
  obtain rfl := Go.Eng.cs_nil h
  obtain ⟨z1, rfl, _⟩ := Go.Eng.bk_i h1
  obtain ⟨z2, rfl, _⟩ := Go.Eng.bk_i h2
  exact ⟨⟨z1, z2⟩, rfl, rfl⟩
namespace policyOver
open Go.ChangeShapes Go.WideShapes Go.ChangeAt Go.RowKit Go.Eng
open Go.ChangeMaps (open_string shut_string)
theorem own : ownKnob Try.prog.godebug = none := by kernel_rfl
theorem laidOut : laidOutB Try.prog = true := by kernel_rfl
set_option maxRecDepth 100000 in
theorem lifted (os : Os) (started : os.Started) (H : Type) (enc : TypeId × Value → H) :
    ReturnsInHanded {} Try.checked os 4 .any (Rows.policyOverSpec.pre6 enc Try.prog Try.f4 Rows.policyOverRow.domain false) (Rows.policyOverSpec.post enc Try.prog Try.f4 false true false false) := by
  refine returnsInHanded_of_change_sized (C := Try.checked) own started (by kernel_rfl) Try.func4
    (ChangeSpec.witness6 (enc := enc) (C := Try.checked) false ⟨#[], #[.slice none 0 0, .slice none 0 0, .slice none 0 0], []⟩ 8 (by kernel_rfl) (by kernel_rfl) (by kernel_rfl) (by kernel_rfl)) ?_
  intro W base args ds gs before hval0 hW hcnd hsz0 _
  have hsz : (DataW.weightsEach Try.prog (Try.f4.params.toList ++ Rows.policyOverSpec.plain.varTypes Try.prog) (ds ++ gs)).all (· ≤ reachBytes) = true := hsz0
  have hval : ∀ (j : Nat) t v, Try.f4.params[j]? = some t → args[j]? = some v → Value.okWide Try.prog W .any base t v := hval0
  have hW' := hW
  obtain ⟨p, q, hA0, hV, rfl, hfz, hnd⟩ := hW
  have hA : DataW.TrodAll enc Try.prog W 0 (fun _ => true) true Try.f4.params.toList args.toList ds p := hA0
  rw [Try.params4] at hA hval hsz
  obtain ⟨v0, vs0, d0, ds0, p0, q0, hargs, rfl, rfl, h0, r0⟩ := trodAll_cons hA
  obtain ⟨v1, vs1, d1, ds1, p1, q1, rfl, rfl, rfl, h1, r1⟩ := trodAll_cons r0
  obtain ⟨v2, vs2, d2, ds2, p2, q2, rfl, rfl, rfl, h2, r2⟩ := trodAll_cons r1
  obtain ⟨rfl, rfl, rfl⟩ := trodAll_nil r2
  obtain rfl : args = #[v0, v1, v2] := by cases args; simp_all
  obtain ⟨rfl, rfl⟩ := trodVars_none hV
  obtain ⟨a0, len0, cap0, rfl⟩ := okWide_slice Try.underlying22 (hval 0 22 v0 rfl rfl)
  have lt0 : ∀ x ∈ p0, x.block < W.heap.size := by obtain ⟨m, hm⟩ := h0; exact DataW.trod_lt m _ _ _ hm
  obtain ⟨x0, w0, wc0⟩ : ∃ xs, RdP W a0 len0 xs ∧ len0 ≤ cap0 := by
    refine rd_arg hsz (j := 0) (t := 22) rfl rfl Try.underlying22 (e := 46) (sz := 2) (B := 16) (by kernel_rfl) (by kernel_rfl) rfl rfl (fun n cs y h => ?_) h0
    exact cs_pol (dec_struct (ks := [.i .i64, .i .i64]) Try.underlying46 (by kernel_rfl) rfl (by kernel_rfl) h)
  obtain ⟨a1, len1, cap1, rfl⟩ := okWide_slice Try.underlying22 (hval 1 22 v1 rfl rfl)
  have lt1 : ∀ x ∈ p1, x.block < W.heap.size := by obtain ⟨m, hm⟩ := h1; exact DataW.trod_lt m _ _ _ hm
  obtain ⟨x1, w1, wc1⟩ : ∃ xs, RdP W a1 len1 xs ∧ len1 ≤ cap1 := by
    refine rd_arg hsz (j := 1) (t := 22) rfl rfl Try.underlying22 (e := 46) (sz := 2) (B := 16) (by kernel_rfl) (by kernel_rfl) rfl rfl (fun n cs y h => ?_) h1
    exact cs_pol (dec_struct (ks := [.i .i64, .i .i64]) Try.underlying46 (by kernel_rfl) rfl (by kernel_rfl) h)
  obtain ⟨a2, len2, cap2, rfl⟩ := okWide_slice Try.underlying22 (hval 2 22 v2 rfl rfl)
  have lt2 : ∀ x ∈ p2, x.block < W.heap.size := by obtain ⟨m, hm⟩ := h2; exact DataW.trod_lt m _ _ _ hm
  obtain ⟨x2, w2, wc2⟩ : ∃ xs, RdP W a2 len2 xs ∧ len2 ≤ cap2 := by
    refine rd_arg hsz (j := 2) (t := 22) rfl rfl Try.underlying22 (e := 46) (sz := 2) (B := 16) (by kernel_rfl) (by kernel_rfl) rfl rfl (fun n cs y h => ?_) h2
    exact cs_pol (dec_struct (ks := [.i .i64, .i .i64]) Try.underlying46 (by kernel_rfl) rfl (by kernel_rfl) h)
  clear hA0 hval0 hsz0 hsz
  refine (Calls.mono (PolicyOver_spec w0 w1 w2 wc0 wc1 wc2) fun e W' ⟨v, hr, _, hv⟩ => ?_)
  obtain ⟨rfl, bel⟩ := hv
  subst hr
  exact ⟨_, rfl, _, _, _, [], _, [], hW', trodAll_mk1 (shut_bool Try.underlying4 _), (trodAll_cons_mk (Below.trod laidOut (by kernel_rfl) (of_decide_eq_true (by kernel_rfl)) h0 bel lt0) (trodAll_cons_mk (Below.trod laidOut (by kernel_rfl) (of_decide_eq_true (by kernel_rfl)) h1 bel lt1) (trodAll_cons_mk (Below.trod laidOut (by kernel_rfl) (of_decide_eq_true (by kernel_rfl)) h2 bel lt2) trodAll_mk0))), rfl, bel.frame _, fun h => by cases h⟩
theorem over : Rows.policyOverRow.holds Try.pinned (OpenSpec.ofChange Rows.policyOverSpec) :=
  OpenClaim.holds_of_wide 4 Try.f4 rfl rfl rfl rfl rfl rfl rfl ⟨rfl, rfl, rfl, rfl, rfl⟩ rfl rfl rfl rfl rfl (by kernel_rfl) Try.func4 (by kernel_rfl)
    (of_decide_eq_true (by kernel_rfl)) (by unfold Func.isWrapper; first | (rw [if_pos (by decide +kernel)]; kernel_rfl) | (rw [if_neg (by decide +kernel)]; exact ⟨rfl, rfl⟩))
    (fun os started H enc _ => lifted os started H enc)
end policyOver
/-- The row. -/
theorem policyOver_holds : Rows.PolicyOverSaid := policyOver.over
end Go.Proofs.Ytbjafckcpkhoaaa
