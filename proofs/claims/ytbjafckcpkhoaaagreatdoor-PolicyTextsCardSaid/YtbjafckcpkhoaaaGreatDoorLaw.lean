/- The law PolicyTexts returns true for every input and leaves its arguments as they were; the variables of the library read as its text lays them (the card ties them). -/
import Derived.Test.YtbjafckcpkhoaaaGreatDoorRows
import Derived.Test.YtbjafckcpkhoaaaGreatDoorCards
import Derived.Test.YtbjafckcpkhoaaaGreatDoorTie
import Derived.Test.YtbjafckcpkhoaaaGreatDoorX5
import Derived.Test.YtbjafckcpkhoaaaGreatDoorX4
set_option linter.unusedVariables false
namespace Go.Proofs.YtbjafckcpkhoaaaGreatDoor
open Go
namespace policyTexts
open Go.ChangeShapes Go.WideShapes Go.ChangeAt Go.RowKit Go.Eng Go.Ab
open Go.ChangeMaps (open_string shut_string)
theorem to3 : TyOf Tryz.prog (.int .i64) 3 := .int (by kernel_rfl)
theorem to37 : TyOf Tryz.prog Y1 37 := .st (fs := Tryz.prog.fieldsOf 37) (by kernel_rfl) (by kernel_rfl) (fd_cast (l := [(3, 0), (3, 1)]) (by kernel_rfl) (.cons (by kernel_rfl) to3 (.one (by kernel_rfl) to3)))
theorem to22 : TyOf Tryz.prog (.slice Y1) 22 := .slice (E := 37) (by kernel_rfl) (by kernel_rfl) rfl (by kernel_rfl) to37
theorem to9 : TyOf Tryz.prog .str 9 := .str (by kernel_rfl)
theorem own : ownKnob Tryz.prog.godebug = none := by kernel_rfl
theorem laidOut : laidOutB Tryz.prog = true := by kernel_rfl
/-- What the condition and the world's shape give a walk. -/
theorem tab_of {W : World} (h : laidMetH Tryz.prog Rows.policyTextsRow.laid W) (hs : W.ShapedOpen Tryz.prog) : ∃ z : PZ, TabM (tabsZ z) (allM W []) := by
  rw [MakeChecks.laidMetH_plain _ _ _ (by kernel_rfl)] at h
  obtain ⟨m0, T0, fr0, q0⟩ := shaped_int (g := 0) (k := .i64) hs (of_decide_eq_true (by kernel_rfl)) (zero := #[.int .i64 0]) (t := 3) (by kernel_rfl) rfl (by kernel_rfl) (by kernel_rfl) (by kernel_rfl)
  obtain ⟨t1, v1, T1, fr1, q1⟩ := laid_iface (l := Rows.policyTextsRow.laid) (n := "strconv.ErrSyntax") h (by exact .tail _ (.tail _ (.tail _ (.tail _ (.tail _ (.head _)))))) (g := 1) (t := 58) (by kernel_rfl) (by kernel_rfl) (by kernel_rfl)
  obtain ⟨t2, v2, T2, fr2, q2⟩ := laid_iface (l := Rows.policyTextsRow.laid) (n := "strconv.ErrRange") h (by exact .tail _ (.tail _ (.tail _ (.tail _ (.head _))))) (g := 2) (t := 58) (by kernel_rfl) (by kernel_rfl) (by kernel_rfl)
  obtain ⟨T3, fr3, q3⟩ := laid_tab (l := Rows.policyTextsRow.laid) (zs := Lib.pow10Tab) h (by exact .tail _ (.tail _ (.head _))) (g := 3) (t := 123) (e := 106) (k := .u64) (by kernel_rfl) (by kernel_rfl) (by kernel_rfl) (by kernel_rfl) (by kernel_rfl) (by kernel_rfl)
  refine ⟨⟨m0, t1, v1, t2, v2⟩, fun x hx => ?_⟩
  simp only [tabsZ, List.mem_cons, List.not_mem_nil, or_false] at hx
  rcases hx with rfl | rfl | rfl | rfl
  · exact ⟨T0, fr0, q0⟩
  · exact ⟨T1, fr1, q1⟩
  · exact ⟨T2, fr2, q2⟩
  · exact ⟨T3, fr3, q3⟩
set_option maxRecDepth 100000 in
theorem lifted (os : Os) (started : os.Started) (H : Type) (enc : TypeId × Value → H) :
    ReturnsInHanded {} Tryz.checked os 3 .any (fun w args => (Rows.policyTextsSpec.pre enc Tryz.prog Tryz.f3 [] false w args ∧ laidMetH Tryz.prog Rows.policyTextsRow.laid w) ∧ sizedMet enc Tryz.prog Tryz.f3 (OpenSpec.ofChange Rows.policyTextsSpec) false w args) (Rows.policyTextsSpec.post enc Tryz.prog Tryz.f3 false true false false) := by
  refine rets_of (C := Tryz.checked) (X := fun w _ => laidMetH Tryz.prog Rows.policyTextsRow.laid w) (fun _ _ _ hh h => h.of_heap hh) own started (by kernel_rfl) Tryz.func3
    (ChangeSpec.witness_shaped (enc := enc) (C := Tryz.checked) (os := os) (X := fun w _ => laidMetH Tryz.prog Rows.policyTextsRow.laid w) false (World.laidAll Tryz.prog os Rows.policyTextsRow.laid) #[.slice none 0 0, .string ByteArray.empty] 8 (World.laidAll_os _ _ _) (World.shaped_of_ZipB (by kernel_rfl) (by kernel_rfl)) (by kernel_rfl) (by kernel_rfl) (by kernel_rfl)
      (by rw [MakeChecks.laidMetH_plain _ _ _ (by kernel_rfl)]; exact laidMet_laidAll _ (by kernel_rfl) (by kernel_rfl))) ?_
  intro W base args ds gs before hval0 hW hsz0 hL hSh
  have hsz : (DataW.weightsEach Tryz.prog (Tryz.f3.params.toList ++ Rows.policyTextsSpec.plain.varTypes Tryz.prog) (ds ++ gs)).all (· ≤ reachBytes) = true := hsz0
  have hval : ∀ (j : Nat) t v, Tryz.f3.params[j]? = some t → args[j]? = some v → Value.okWide Tryz.prog W .any base t v := hval0
  have hW' := hW
  obtain ⟨p, q, hA0, hV, rfl, hfz, hnd⟩ := hW
  have hA : DataW.TrodAll enc Tryz.prog W 0 (fun _ => true) true Tryz.f3.params.toList args.toList ds p := hA0
  rw [Tryz.params3] at hA hval hsz
  obtain ⟨v0, vs0, d0, ds0, p0, q0, hargs, rfl, rfl, h0, r0⟩ := trodAll_cons hA
  obtain ⟨v1, vs1, d1, ds1, p1, q1, rfl, rfl, rfl, h1, r1⟩ := trodAll_cons r0
  obtain ⟨rfl, rfl, rfl⟩ := trodAll_nil r1
  obtain rfl : args = #[v0, v1] := by cases args; simp_all
  obtain ⟨rfl, rfl⟩ := trodVars_none hV
  have lt0 : ∀ x ∈ p0, x.block < W.heap.size := by obtain ⟨m, hm⟩ := h0; exact DataW.trod_lt m _ _ _ hm
  obtain ⟨x0, wf0, rp0⟩ := arg_ty to22 rfl (hval 0 22 v0 rfl rfl) hsz (j := 0) rfl rfl h0
  have lt1 : ∀ x ∈ p1, x.block < W.heap.size := by obtain ⟨m, hm⟩ := h1; exact DataW.trod_lt m _ _ _ hm
  obtain ⟨x1, wf1, rp1⟩ := arg_ty to9 rfl (hval 1 9 v1 rfl rfl) hsz (j := 1) rfl rfl h1
  obtain ⟨z, hz⟩ := tab_of hL hSh
  clear hA0 hval0 hsz0 hsz
  refine (Calls.mono (law_callsT (fp3_runs (fp3_t _ _)) hz (vs := [v0, v1]) (by simp only [RepL]; exact ⟨rp0, rp1, trivial⟩)) fun e W' ⟨v, hr, _, hv⟩ => ?_)
  obtain ⟨rfl, bel⟩ := hv
  subst hr
  exact ⟨_, rfl, _, _, _, [], _, [], hW', trodAll_mk1 (shut_bool Tryz.underlying4 _), (trodAll_cons_mk (Below.trod laidOut (by kernel_rfl) (of_decide_eq_true (by kernel_rfl)) h0 bel lt0) (trodAll_cons_mk (Below.trod laidOut (by kernel_rfl) (of_decide_eq_true (by kernel_rfl)) h1 bel lt1) trodAll_mk0)), rfl, bel.frame _, fun h => by cases h⟩
theorem over : Rows.policyTextsRow.holds Tryz.pinned (OpenSpec.ofChange Rows.policyTextsSpec) :=
  OpenClaim.holds_of_wide 3 Tryz.f3 rfl rfl rfl rfl rfl rfl rfl ⟨rfl, rfl, rfl, rfl, rfl⟩ rfl rfl rfl rfl rfl (by kernel_rfl) Tryz.func3 (by kernel_rfl)
    (of_decide_eq_true (by kernel_rfl)) (by unfold Func.isWrapper; first | (rw [if_pos (by decide +kernel)]; kernel_rfl) | (rw [if_neg (by decide +kernel)]; exact ⟨rfl, rfl⟩))
    (fun os started H enc _ => lifted os started H enc)
/-- THE TIED CARD. -/
theorem card : Rows.PolicyTextsCardSaid :=
  Claim7.holds_tied_plain_at .later [] [.data, .data, .data, .data, .sentinel, .sentinel, .pinned] true (true, "da5139c5cc4c52a7df8eca40b98e2313002d59c2d5e128305a7054b16504d9c0") true
    over (fun _ h => by cases h) (by kernel_rfl) (fun _ h => by cases h) policyTexts_row_tie rfl ⟨rfl, rfl⟩ (by kernel_rfl) rfl
    (fun f fn hf hfn => by
      obtain rfl : f = 3 := Option.some.inj ((show Tryz.prog.funcNamed "intermede/intermedelaw18.PolicyTexts" = some 3 by kernel_rfl).symm.trans hf) |>.symm
      obtain rfl : fn = Tryz.f3 := (Option.some.inj (Tryz.func3.symm.trans hfn)).symm
      exact ⟨by kernel_rfl, fun j t ht => by
        rw [Tryz.params3] at ht
        have hm : t ∈ [22, 9] := by simpa using Array.mem_of_getElem? ht
        have hall : ([22, 9].all fun u => !Tryz.prog.wantsStandIn u) = true := by kernel_rfl
        exact (show Tryz.prog.wantsStandIn t = false by simpa using List.all_eq_true.1 hall t hm)⟩)
    (by kernel_rfl)
end policyTexts
/-- The card. -/
theorem policyTexts_card_holds : Rows.PolicyTextsCardSaid := policyTexts.card
end Go.Proofs.YtbjafckcpkhoaaaGreatDoor

