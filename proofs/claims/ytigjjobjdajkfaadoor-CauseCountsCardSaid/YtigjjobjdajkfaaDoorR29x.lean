/- The law CauseCounts returns true for every input and leaves its arguments as they were; the tables of powers of ten and of bits read as the text of the library lays them (the card ties them). -/
import Derived.Test.YtigjjobjdajkfaaDoorRows
import Derived.Test.YtigjjobjdajkfaaDoorCards
import Derived.Test.YtigjjobjdajkfaaDoorTie
import Derived.WalkKit
import Derived.ProofKit
import Derived.OpenShut
import Derived.ShutString
import Derived.ChangeOld
import Derived.Below
import Derived.SizedLaws
import Derived.LaidMore
import Derived.LaidHandle
import Derived.MakeChecks
import Derived.Stop.Joined
import Derived.SevenTiedAt
import Derived.Lib.LaidTab
import Derived.Test.YtigjjobjdajkfaaDoorAb2
import Derived.Test.YtigjjobjdajkfaaDoorAb3
import Derived.Test.YtigjjobjdajkfaaDoorTD4
import Derived.Test.YtigjjobjdajkfaaDoorD
set_option linter.unusedVariables false
namespace Go.Proofs.YtigjjobjdajkfaaDoor
open Go
namespace causeCounts
open Go.ChangeShapes Go.WideShapes Go.ChangeAt Go.RowKit Go.Eng Go.Ab
open Go.ChangeMaps (open_string shut_string)
theorem to3 : TyOf Tryd.prog (.int .i64) 3 := .int (by kernel_rfl)
theorem to9 : TyOf Tryd.prog .str 9 := .str (by kernel_rfl)
theorem to30 : TyOf Tryd.prog Y1 30 := .st (fs := Tryd.prog.fieldsOf 30) (by kernel_rfl) (by kernel_rfl) (fd_cast (l := [(3, 0), (3, 1), (3, 2), (3, 3), (9, 4)]) (by kernel_rfl) (.cons (by kernel_rfl) to3 (.cons (by kernel_rfl) to3 (.cons (by kernel_rfl) to3 (.cons (by kernel_rfl) to3 (.one (by kernel_rfl) to9))))))
theorem to22 : TyOf Tryd.prog (.slice Y1) 22 := .slice (E := 30) (by kernel_rfl) (by kernel_rfl) rfl (by kernel_rfl) to30
theorem own : ownKnob Tryd.prog.godebug = none := by kernel_rfl
theorem laidOut : laidOutB Tryd.prog = true := by kernel_rfl
theorem ra {l : List Go.Ab.Act} (h : WF (.slice Y1) l) : RA l := fun i hi => by
  have := h.2 _ (getD_mem (d := default) hi)
  exact ⟨lit64 this.2.2.1, lit64 this.2.2.2.1⟩
theorem laid_drop {P : Program} {W : World} : ∀ {n : Nat} {l : List (String × DataW Unit)} {ps : List MemPlace}, DataW.LaidVars P W l ps → ∃ q, DataW.LaidVars P W (l.drop n) q
  | 0, l, ps, h => ⟨ps, by simpa using h⟩
  | n + 1, [], ps, h => ⟨ps, by simpa using h⟩
  | n + 1, (a, b) :: l, ps, h => by
    obtain ⟨g, t, cs, fuel, p, q, h1, h2, h3, h4, h5, h6⟩ := h
    simpa using laid_drop (n := n) h5
theorem gT : Tryd.prog.globalNamed "internal/strconv.uint64pow10" = some 0 := by kernel_rfl
theorem gTy : (Tryd.prog.globals[0]?).map (·.type) = some 98 := by kernel_rfl
theorem uT : Tryd.prog.underlying 98 = some (.array Lib.pow10Tab.length 80) := by kernel_rfl
theorem uE : Tryd.prog.underlying 80 = some (.int .u64) := by kernel_rfl
theorem cE : Tryd.prog.cellsOf 80 = 1 := by kernel_rfl
theorem cT : Tryd.prog.cellsOf 98 = Lib.pow10Tab.length := by kernel_rfl
theorem isTab : Rows.causeCountsRow.laid.drop 2 = [("internal/strconv.uint64pow10", Lib.tabData .u64 Lib.pow10Tab)] := rfl
/-- What the condition gives a walk: the table. -/
theorem tab_of {W : World} (h : laidMetH Tryd.prog Rows.causeCountsRow.laid W) : TabM tabsZ (allM W []) := by
  rw [MakeChecks.laidMetH_plain _ _ _ (by kernel_rfl)] at h
  obtain ⟨ps, hl, _⟩ := h
  obtain ⟨q, hq⟩ := laid_drop (n := 2) hl
  rw [isTab] at hq
  obtain ⟨g', t', cs, fuel, p, q', hg', ht', hvar, hd, _, _⟩ := hq
  obtain rfl := Option.some.inj (gT.symm.trans hg')
  obtain rfl := Option.some.inj (gTy.symm.trans ht')
  have e := Lib.cells_of_tab uT uE cE cT hd
  unfold World.var? at hvar
  rw [gT] at hvar
  simp only [Option.bind_some] at hvar
  intro x hx
  obtain rfl := List.mem_singleton.1 hx
  split at hvar
  · rename_i cs1 T fr hb
    obtain rfl := Option.some.inj hvar
    exact ⟨T, fr, by rw [allM_nil hb rfl, ← e]⟩
  · cases hvar
theorem law_callsT {T : Mem → Prop} {P : Program} {f : FuncId} {args : List AV} {W : World} {vs : List Value} {r : Bool} (h : RunsT T P f args [] fun q H => q = [.bool r] ∧ H = []) (hT : T (allM W [])) (hv : RepL (allM W []) [] args vs) : Ret P f vs.toArray W fun v W' => v = .bool r ∧ Below W.heap.size W W' := by
  have := h (allM W []) hT W W (allM W []) [] [] [] vs (Mem.le_refl _) hv ⟨rfl, rfl, fun i o h f hi => by simp at hi⟩ (by simpa using sh_law W)
  refine Calls.mono this ?_
  rintro e w' ⟨v, he, hd, rs', H', m', ρ', φ', ⟨rfl, rfl⟩, hm, _, _, ho, hs, us, hu, rfl⟩
  have hφ : φ' = [] := List.eq_nil_of_length_eq_zero ho.nφ
  subst hφ
  have h1 := rep_tup hu
  simp only [tupA, RepA] at h1
  exact ⟨_, he, hd, h1, below_all (sh_law W) (by simpa using hs) hm hd.2 hd.1⟩
/-- The door's own heap meets the condition. -/
theorem door_met (os : Os) (args : Array Value) : laidMetH Tryd.prog Rows.causeCountsRow.laid ((World.doorLaid Tryd.prog 400 os).forCall (fun _ _ => 0) ⟨#[], args, []⟩).memory :=
  laidMetH_of_parts3 (fuel := 8) (laidMet_of_run' 8 (by kernel_rfl) (by kernel_rfl)) (by kernel_rfl) (by kernel_rfl)
set_option maxRecDepth 100000 in
theorem lifted (os : Os) (started : os.Started) (H : Type) (enc : TypeId × Value → H) :
    ReturnsInHanded {} Tryd.checked os 3 .any (fun w args => (Rows.causeCountsSpec.pre enc Tryd.prog Tryd.f3 [] false w args ∧ laidMetH Tryd.prog Rows.causeCountsRow.laid w) ∧ sizedMet enc Tryd.prog Tryd.f3 (OpenSpec.ofChange Rows.causeCountsSpec) false w args) (Rows.causeCountsSpec.post enc Tryd.prog Tryd.f3 false true false false) := by
  refine returnsInHanded_of_change_and (C := Tryd.checked) (X := fun w _ => laidMetH Tryd.prog Rows.causeCountsRow.laid w) (fun _ _ _ hh h => h.of_heap hh) own started (by kernel_rfl) Tryd.func3
    (ChangeSpec.witness_shaped (enc := enc) (C := Tryd.checked) (os := os) (X := fun w _ => laidMetH Tryd.prog Rows.causeCountsRow.laid w) false (World.doorLaid Tryd.prog 400 os) #[.int .i64 0, .slice none 0 0] 8 rfl (World.shaped_of_RefB (by kernel_rfl) (by kernel_rfl)) (by kernel_rfl) (by kernel_rfl) (by kernel_rfl) (door_met os _)) ?_
  intro W base args ds gs before hval0 hW _ hsz0 hL _
  have hsz : (DataW.weightsEach Tryd.prog (Tryd.f3.params.toList ++ Rows.causeCountsSpec.plain.varTypes Tryd.prog) (ds ++ gs)).all (· ≤ reachBytes) = true := hsz0
  have hval : ∀ (j : Nat) t v, Tryd.f3.params[j]? = some t → args[j]? = some v → Value.okWide Tryd.prog W .any base t v := hval0
  have hW' := hW
  obtain ⟨p, q, hA0, hV, rfl, hfz, hnd⟩ := hW
  have hA : DataW.TrodAll enc Tryd.prog W 0 (fun _ => true) true Tryd.f3.params.toList args.toList ds p := hA0
  rw [Tryd.params3] at hA hval hsz
  obtain ⟨v0, vs0, d0, ds0, p0, q0, hargs, rfl, rfl, h0, r0⟩ := trodAll_cons hA
  obtain ⟨v1, vs1, d1, ds1, p1, q1, rfl, rfl, rfl, h1, r1⟩ := trodAll_cons r0
  obtain ⟨rfl, rfl, rfl⟩ := trodAll_nil r1
  obtain rfl : args = #[v0, v1] := by cases args; simp_all
  obtain ⟨rfl, rfl⟩ := trodVars_none hV
  have lt0 : ∀ x ∈ p0, x.block < W.heap.size := by obtain ⟨m, hm⟩ := h0; exact DataW.trod_lt m _ _ _ hm
  obtain ⟨x0, wf0, rp0⟩ := arg_ty to3 rfl (hval 0 3 v0 rfl rfl) hsz (j := 0) rfl rfl h0
  have lt1 : ∀ x ∈ p1, x.block < W.heap.size := by obtain ⟨m, hm⟩ := h1; exact DataW.trod_lt m _ _ _ hm
  obtain ⟨x1, wf1, rp1⟩ := arg_ty to22 rfl (hval 1 22 v1 rfl rfl) hsz (j := 1) rfl rfl h1
  clear hA0 hval0 hsz0 hsz
  refine (Calls.mono (law_callsT (d3_runs (d3_t x0 x1 (ra wf1))) (tab_of hL) (vs := [v0, v1]) (by simp only [RepL]; exact ⟨rp0, rp1, trivial⟩)) fun e W' ⟨v, hr, _, hv⟩ => ?_)
  obtain ⟨rfl, bel⟩ := hv
  subst hr
  exact ⟨_, rfl, _, _, _, [], _, [], hW', trodAll_mk1 (shut_bool Tryd.underlying4 _), (trodAll_cons_mk (Below.trod laidOut (by kernel_rfl) (of_decide_eq_true (by kernel_rfl)) h0 bel lt0) (trodAll_cons_mk (Below.trod laidOut (by kernel_rfl) (of_decide_eq_true (by kernel_rfl)) h1 bel lt1) trodAll_mk0)), rfl, bel.frame _, fun h => by cases h⟩
theorem over : Rows.causeCountsRow.holds Tryd.pinned (OpenSpec.ofChange Rows.causeCountsSpec) :=
  OpenClaim.holds_of_wide 3 Tryd.f3 rfl rfl rfl rfl rfl rfl rfl ⟨rfl, rfl, rfl, rfl, rfl⟩ rfl rfl rfl rfl rfl (by kernel_rfl) Tryd.func3 (by kernel_rfl)
    (of_decide_eq_true (by kernel_rfl)) (by unfold Func.isWrapper; first | (rw [if_pos (by decide +kernel)]; kernel_rfl) | (rw [if_neg (by decide +kernel)]; exact ⟨rfl, rfl⟩))
    (fun os started H enc _ => lifted os started H enc)
/-- THE TIED CARD. -/
theorem card : Rows.CauseCountsCardSaid :=
  Claim7.holds_tied_plain_at .later [] [.data, .data, .data] true (true, "9a933cc5e91a2b96664afa4fb535911f83da1ccef3abc7c0fb85b886380b7523") false
    over (fun _ h => by cases h) (by kernel_rfl) (fun _ h => by cases h) causeCounts_row_tie rfl ⟨rfl, rfl⟩ (by kernel_rfl) rfl
    (fun f fn hf hfn => by
      obtain rfl : f = 3 := Option.some.inj ((show Tryd.prog.funcNamed "intermede/intermedelaw29.CauseCounts" = some 3 by kernel_rfl).symm.trans hf) |>.symm
      obtain rfl : fn = Tryd.f3 := (Option.some.inj (Tryd.func3.symm.trans hfn)).symm
      exact ⟨by kernel_rfl, fun j t ht => by
        rw [Tryd.params3] at ht
        have hm : t ∈ [3, 22] := by simpa using Array.mem_of_getElem? ht
        have hall : ([3, 22].all fun u => !Tryd.prog.wantsStandIn u) = true := by kernel_rfl
        exact (show Tryd.prog.wantsStandIn t = false by simpa using List.all_eq_true.1 hall t hm)⟩)
    (by kernel_rfl)
end causeCounts
/-- The card. -/
theorem causeCounts_card_holds : Rows.CauseCountsCardSaid := causeCounts.card
end Go.Proofs.YtigjjobjdajkfaaDoor

