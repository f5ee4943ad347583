/- Lemmas for a law of the seat: what functions of the program do, each stated as a contract of its own (TD4). -/
import Derived.Test.YtigjjobjdajkfaaDoorLayD
import Derived.Test.YtigjjobjdajkfaaDoorAb3
import Derived.Test.YtigjjobjdajkfaaDoorChecked
import Derived.Test.YtigjjobjdajkfaaDoorTDd
import Derived.Test.YtigjjobjdajkfaaDoorTD3
set_option linter.unusedVariables false
set_option maxRecDepth 100000
namespace Go.Ab
open Go.RowKit Go.Shelf Go.Proofs Go.Eng
theorem ent16 : Enters Tryd.prog 16 := enters_of Tryd.func16 (by kernel_rfl) rfl
theorem ent17 : Enters Tryd.prog 17 := enters_of Tryd.func17 (by kernel_rfl) rfl
theorem ent18 : Enters Tryd.prog 18 := enters_of Tryd.func18 (by kernel_rfl) rfl
theorem ent19 : Enters Tryd.prog 19 := enters_of Tryd.func19 (by kernel_rfl) rfl
theorem und47 : Und Tryd.prog 47 (.map 9 4) := by unfold Und; kernel_rfl
theorem kt9 : KeyT Tryd.prog 9 .str := keyT_str (by kernel_rfl)
theorem ent4 : Enters Tryd.prog 4 := enters_of Tryd.func4 (by kernel_rfl) rfl
theorem ent5 : Enters Tryd.prog 5 := enters_of Tryd.func5 (by kernel_rfl) rfl
theorem ent6 : Enters Tryd.prog 6 := enters_of Tryd.func6 (by kernel_rfl) rfl
theorem ent7 : Enters Tryd.prog 7 := enters_of Tryd.func7 (by kernel_rfl) rfl
theorem d7_runs {p0 : Int} {p1 : List (Int × Int × Int × Int × Str)} {r : Int × Int} (hr : d7 p0 p1 = some r) : RunsT (TabM tabsZ) Tryd.prog 7 [.int .i64 p0, .sl Y1 p1] [] (fun q H' => q = [.int .i64 r.1, .int .i64 r.2] ∧ H' = []) := by
  refine runs_wT Tryd.func7 Tryd.ntmps7 rfl (rs := [.tmp 4, .tmp 5]) rfl rfl fun w0 X hT hX => ?_
  refine awc_seq ?_
  refine awc_region ?_
  refine awl_v (av_assign rfl) ?_
  refine awl_v (av_assign rfl) ?_
  refine awl_nil (athen_norm (awc_seq (awc_seq ?_)))
  refine awc_region ?_
  refine awl_v (av_move rfl) ?_
  refine awl_v (av_move rfl) ?_
  obtain ⟨x1, e2, hr⟩ := bnd_some hr
  refine awl_v (av_call (f18_runs e2).x ent16 rfl rfl) ?_
  refine awl_v (av_not rfl) ?_
  refine awl_nil (athen_norm ?_)
  refine awc_cond (b := !x1) rfl (fun hc3 => ?_) (fun hc3 => ?_)
  · have hr := if_t hc3 hr
    refine awc_seq ?_
    refine awc_region ?_
    refine awl_v (av_assign rfl) ?_
    refine awl_v (av_assign rfl) ?_
    have hr := Option.some.inj hr
    subst hr
    exact awl_nil (athen_norm (awc_ret (athen_ret (ret_q (l' := [(4, .int .i64 0), (5, .int .i64 1)]) (wk_of hX [] 4 rfl rfl ⟨⟨_, rfl, cv0⟩, ⟨_, rfl, cv0⟩, trivial⟩ trivial) rfl ⟨rfl, rfl, trivial⟩))))
  · have hr := if_f hc3 hr
    refine awc_skip (athen_norm (awc_seq (awc_seq ?_)))
    refine awc_region ?_
    refine awl_v (av_move rfl) ?_
    refine awl_v (av_len_sl (t := Y1) rfl rfl und22 rfl) ?_
    refine awl_v (av_gtr rfl rfl) ?_
    refine awl_nil (athen_norm ?_)
    refine awc_cond (b := decide (60 < (List.length p1 : Int))) rfl (fun hc4 => ?_) (fun hc4 => ?_)
    · have hr := if_t hc4 hr
      refine awc_seq ?_
      refine awc_region ?_
      refine awl_v (av_assign rfl) ?_
      refine awl_v (av_assign rfl) ?_
      have hr := Option.some.inj hr
      subst hr
      exact awl_nil (athen_norm (awc_ret (athen_ret (ret_q (l' := [(4, .int .i64 0), (5, .int .i64 4)]) (wk_of hX [] 4 rfl rfl ⟨⟨_, rfl, cv0⟩, ⟨_, rfl, cv0⟩, trivial⟩ trivial) rfl ⟨rfl, rfl, trivial⟩))))
    · have hr := if_f hc4 hr
      refine awc_skip (athen_norm (awc_seq ?_))
      refine awc_region ?_
      refine awl_v (av_move rfl) ?_
      refine awl_v (av_move rfl) ?_
      obtain ⟨x5, e6, hr⟩ := bnd_some hr
      refine awl_v (av_call (f67_runs e6).x ent17 rfl rfl) ?_
      refine awl_v (av_move rfl) ?_
      obtain ⟨x7, e8, hr⟩ := bnd_some hr
      refine awl_v (av_call (f23_runs e8).x ent18 rfl rfl) ?_
      refine awl_v (av_assign rfl) ?_
      refine awl_v (av_assign rfl) ?_
      refine awl_nil (athen_norm (awc_seq ?_))
      refine awc_region ?_
      refine awl_v (av_move rfl) ?_
      obtain ⟨h9, hr⟩ := chk_some hr
      refine awl_op (aop_make (t := (.int .i64)) und38 zt3 rfl rfl h9 rfl ?_)
      refine awl_wk (wk_frz [36] 0 rfl rfl rfl) ?_
      refine awl_op (aop_buildSlice (t := (.slice (.int .i64))) (qs := [(0, [.sl (.int .i64) (List.replicate (Int.toNat p0) 0)])]) (ys := [(List.replicate (Int.toNat p0) 0)]) bs34 rfl rfl rfl rfl rfl rfl rfl rfl ?_)
      refine awl_v (av_assign rfl) ?_
      refine awl_nil (athen_norm (awc_seq ?_))
      refine awc_region ?_
      refine awl_v (av_assign rfl) ?_
      refine awl_nil (athen_norm (awc_seq (awc_block ?_)))
      obtain ⟨o16, e17, hr⟩ := bnd_some hr
      refine awc_loop (S := Int × List (List Int)) (R := Unit ⊕ Int) (fun p => match p with | (s10, s11) => (⟨[(1, .sl Y1 p1), (4, .int .i64 0), (5, .int .i64 0), (6, .sl (.int .i64) x5), (7, .sl (.slice .bool) x7), (8, .osl 0), (9, .int .i64 s10)], [(0, .sl 38 (.slice (.int .i64)) s11)], 1⟩ : AS)) (d7_b0 p1 x5 x7) (fun r e st => match r with | .inl () => e = .ret ∧ Wk X st ⟨[(4, .int .i64 0), (5, .int .i64 4)], [], 0⟩ | .inr s14 => e = .exit 0 ∧ Wk X st ⟨[(4, .int .i64 0), (5, .int .i64 0), (9, .int .i64 s14)], [], 0⟩) e17 (wk_of hX [1] 4 rfl rfl ⟨⟨_, rfl, cv0⟩, ⟨_, rfl, cv0⟩, ⟨_, rfl, cv0⟩, ⟨_, rfl, cv0⟩, ⟨_, rfl, cv0⟩, ⟨_, rfl, cv0⟩, ⟨_, rfl, cv0⟩, trivial⟩ ⟨cvo0, trivial⟩) ?_ ?_
      · intro e st hx
        rcases o16 with _ | s14
        · obtain ⟨rfl, hw⟩ := hx
          have hr := Option.some.inj hr
          subst hr
          exact ablock_ret (athen_ret (ret_q (l' := [(4, .int .i64 0), (5, .int .i64 4)]) (Wk.trans hw (wk_of hX [] 4 rfl rfl ⟨⟨_, rfl, cv0⟩, ⟨_, rfl, cv0⟩, trivial⟩ trivial)) rfl ⟨rfl, rfl, trivial⟩))
        · obtain ⟨rfl, hw⟩ := hx
          refine ablock_here (athen_norm ((awc_wk hw) (awc_seq ?_)))
          refine awc_region ?_
          refine awl_v (av_move rfl) ?_
          refine awl_v (av_assign rfl) ?_
          refine awl_v (av_assign rfl) ?_
          have hr := Option.some.inj hr
          subst hr
          exact awl_nil (athen_norm (awc_ret (ret_q (l' := [(4, .int .i64 s14), (5, .int .i64 0)]) (wk_of hX [] 4 rfl rfl ⟨⟨_, rfl, cv0⟩, ⟨_, rfl, cv0⟩, trivial⟩ trivial) rfl ⟨rfl, rfl, trivial⟩)))
      · rintro ⟨s10, s11⟩ o hr
        refine awc_seq (awc_seq ?_)
        refine awc_region ?_
        refine awl_v (av_move rfl) ?_
        refine awl_v (av_len_osl (t := (.slice (.int .i64))) rfl rfl und34 rfl rfl) ?_
        refine awl_v (av_gtr rfl rfl) ?_
        refine awl_nil (athen_norm ?_)
        refine awc_cond (b := decide (0 < (List.length s11 : Int))) rfl (fun hc18 => ?_) (fun hc18 => ?_)
        · have hr := if_t hc18 hr
          refine awc_skip (athen_norm (awc_block (awc_seq ?_)))
          refine awc_region ?_
          refine awl_v (av_move rfl) ?_
          refine awl_v (av_move rfl) ?_
          refine awl_v (av_len_osl (t := (.slice (.int .i64))) rfl rfl und34 rfl rfl) ?_
          refine awl_v (av_add rfl rfl) ?_
          refine awl_v (av_assign rfl) ?_
          refine awl_nil (athen_norm (awc_seq (awc_seq ?_)))
          refine awc_region ?_
          refine awl_v (av_move rfl) ?_
          refine awl_v (av_gtr rfl rfl) ?_
          refine awl_nil (athen_norm ?_)
          refine awc_cond (b := decide (100000 < (w64 (s10 + (List.length s11 : Int))))) rfl (fun hc19 => ?_) (fun hc19 => ?_)
          · have hr := if_t hc19 hr
            refine awc_seq ?_
            refine awc_region ?_
            refine awl_v (av_assign rfl) ?_
            refine awl_v (av_assign rfl) ?_
            have hr := Option.some.inj hr
            subst hr
            exact awl_nil (athen_norm (awc_ret (athen_ret (ablock_ret (⟨rfl, (wk_of hX [] 4 rfl rfl ⟨⟨_, rfl, cv0⟩, ⟨_, rfl, cv0⟩, trivial⟩ trivial)⟩)))))
          · have hr := if_f hc19 hr
            refine awc_skip (athen_norm (awc_seq ?_))
            refine awc_region ?_
            refine awl_op (aop_makeMap .str .bool rfl ?_)
            refine awl_v (av_assign rfl) ?_
            refine awl_nil (athen_norm (awc_seq ?_))
            refine awc_region ?_
            refine awl_v (av_assign rfl) ?_
            refine awl_nil (athen_norm (awc_seq (awc_seq ?_)))
            refine awc_region ?_
            refine awl_v (av_move rfl) ?_
            refine awl_v (av_len_osl (t := (.slice (.int .i64))) rfl rfl und34 rfl rfl) ?_
            refine awl_v (av_move rfl) ?_
            refine awl_nil (athen_norm (awc_block ?_))
            obtain ⟨o27, e28, hr⟩ := bnd_some hr
            refine awc_lenO (i := 0) rfl rfl (fun hl => ?_)
            refine awc_range (S := (List (Str × Bool)) × List (List Int)) (R := Unit) (List.length s11 : Int) (d7_b1 p1 x5 x7 s11) (fun p => match p with | (i20, s22, s23) => (⟨[(1, .sl Y1 p1), (4, .int .i64 0), (5, .int .i64 0), (6, .sl (.int .i64) x5), (7, .sl (.slice .bool) x7), (8, .osl 0), (9, .int .i64 (w64 (s10 + (List.length s11 : Int)))), (10, .map 1), (11, .osl 2), (48, .osl 0), (49, .int .i64 (List.length s11 : Int)), (50, .int .i64 i20)], [(0, .sl 38 (.slice (.int .i64)) s11), (1, .map .str .bool s22), (2, .sl 38 (.slice (.int .i64)) s23)], 3⟩ : AS)) (fun o e st => match o with | .inr _ => False | .inl (s22, s23) => e = .exit 2 ∧ Wk X st ⟨[(1, .sl Y1 p1), (4, .int .i64 0), (5, .int .i64 0), (6, .sl (.int .i64) x5), (7, .sl (.slice .bool) x7), (8, .osl 0), (9, .int .i64 (w64 (s10 + (List.length s11 : Int)))), (11, .osl 1)], [(0, .sl 38 (.slice (.int .i64)) s11), (1, .sl 38 (.slice (.int .i64)) s23)], 2⟩) (len_ok hl) e28 (Wk.trans (wk_own (t := 11) 38 (.slice (.int .i64)) rfl) (wk_of hX [0, 1, 2] 4 rfl rfl ⟨⟨_, rfl, cv0⟩, ⟨_, rfl, cv0⟩, ⟨_, rfl, cv0⟩, ⟨_, rfl, cv0⟩, ⟨_, rfl, cv0⟩, ⟨_, rfl, cv0⟩, ⟨_, rfl, cv0⟩, ⟨_, rfl, cv0⟩, ⟨_, rfl, cv0⟩, ⟨_, rfl, cv0⟩, ⟨_, rfl, cv0⟩, ⟨_, rfl, cv0⟩, trivial⟩ ⟨cvo0, cvo0, cvo0, trivial⟩)) ?_ ?_
            · intro e st hx
              rcases o27 with ⟨s22, s23⟩ | _
              · obtain ⟨rfl, hw⟩ := hx
                refine ablock_here (athen_norm ((awc_wk hw) ?_))
                refine awc_region ?_
                refine awl_v (av_move rfl) ?_
                refine awl_v (av_assign rfl) ?_
                have hr := Option.some.inj hr
                subst hr
                exact awl_nil (ablock_norm ((wk_of hX [1] 4 rfl rfl ⟨⟨_, rfl, cv0⟩, ⟨_, rfl, cv0⟩, ⟨_, rfl, cv0⟩, ⟨_, rfl, cv0⟩, ⟨_, rfl, cv0⟩, ⟨_, rfl, cv0⟩, ⟨_, rfl, cv0⟩, trivial⟩ ⟨cvo0, trivial⟩)))
              · exact hx.elim
            · rintro i20 ⟨s22, s23⟩ o ho
              refine awc_seq ?_
              refine awc_region ?_
              refine awl_v (av_lss rfl rfl) ?_
              refine awl_nil (athen_norm (awc_seq ?_))
              refine awc_cond (b := decide (i20 < (List.length s11 : Int))) rfl (fun hc29 => ?_) (fun hc29 => ?_)
              · obtain ⟨q, hr, rfl⟩ := rb_t hc29 ho
                refine awc_skip (athen_norm (awc_seq (awc_block (awc_seq ?_))))
                refine awc_region ?_
                obtain ⟨x30, e31, hr⟩ := bnd_some hr
                refine awl_v (av_ia_osl (t := (.slice (.int .i64))) und34 sz38 rfl rfl rfl e31) ?_
                refine awl_v (av_load_ep ts38 rfl rfl rfl (ix_at e31) rfl) ?_
                refine awl_v (av_assign rfl) ?_
                refine awl_nil (athen_norm (awc_seq ?_))
                refine awc_region ?_
                refine awl_v (av_move rfl) ?_
                refine awl_v (av_len_sl (t := Y1) rfl rfl und22 rfl) ?_
                refine awl_v (av_move rfl) ?_
                refine awl_nil (athen_norm (awc_block ?_))
                obtain ⟨o39, e40, hr⟩ := bnd_some hr
                refine awc_len (t := 1) rfl (fun hl => ?_)
                refine awc_range (S := (List (Str × Bool)) × List (List Int)) (R := Unit) (List.length p1 : Int) (d7_b2 p1 x5 x7 x30) (fun p => match p with | (i32, s34, s35) => (⟨[(1, .sl Y1 p1), (4, .int .i64 0), (5, .int .i64 0), (6, .sl (.int .i64) x5), (7, .sl (.slice .bool) x7), (8, .osl 0), (9, .int .i64 (w64 (s10 + (List.length s11 : Int)))), (10, .map 1), (11, .osl 2), (13, .sl (.int .i64) x30), (48, .osl 0), (49, .int .i64 (List.length s11 : Int)), (50, .int .i64 i20), (54, .sl Y1 p1), (55, .int .i64 (List.length p1 : Int)), (56, .int .i64 i32)], [(0, .sl 38 (.slice (.int .i64)) s11), (1, .map .str .bool s34), (2, .sl 38 (.slice (.int .i64)) s35)], 3⟩ : AS)) (fun o e st => match o with | .inr _ => False | .inl (s34, s35) => e = .exit 4 ∧ Wk X st ⟨[(1, .sl Y1 p1), (4, .int .i64 0), (5, .int .i64 0), (6, .sl (.int .i64) x5), (7, .sl (.slice .bool) x7), (8, .osl 0), (9, .int .i64 (w64 (s10 + (List.length s11 : Int)))), (10, .map 1), (11, .osl 2), (48, .osl 0), (49, .int .i64 (List.length s11 : Int)), (50, .int .i64 i20)], [(0, .sl 38 (.slice (.int .i64)) s11), (1, .map .str .bool s34), (2, .sl 38 (.slice (.int .i64)) s35)], 3⟩) (len_ok hl) e40 (wk_of hX [0, 1, 2] 4 rfl rfl ⟨⟨_, rfl, cv0⟩, ⟨_, rfl, cv0⟩, ⟨_, rfl, cv0⟩, ⟨_, rfl, cv0⟩, ⟨_, rfl, cv0⟩, ⟨_, rfl, cv0⟩, ⟨_, rfl, cv0⟩, ⟨_, rfl, cv0⟩, ⟨_, rfl, cv0⟩, ⟨_, rfl, cv0⟩, ⟨_, rfl, cv0⟩, ⟨_, rfl, cv0⟩, ⟨_, rfl, cv0⟩, ⟨_, rfl, cv0⟩, ⟨_, rfl, cv0⟩, ⟨_, rfl, cv0⟩, trivial⟩ ⟨cvo0, cvo0, cvo0, trivial⟩) ?_ ?_
                · intro e st hx
                  rcases o39 with ⟨s34, s35⟩ | _
                  · obtain ⟨rfl, hw⟩ := hx
                    refine ablock_here (ablock_norm (athen_norm ((awc_wk hw) ?_)))
                    refine awc_region ?_
                    refine awl_v (av_add rfl rfl) ?_
                    refine awl_v (av_move rfl) ?_
                    have hr := Option.some.inj hr
                    subst hr
                    exact awl_nil ((wk_of hX [0, 1, 2] 4 rfl rfl ⟨⟨_, rfl, cv0⟩, ⟨_, rfl, cv0⟩, ⟨_, rfl, cv0⟩, ⟨_, rfl, cv0⟩, ⟨_, rfl, cv0⟩, ⟨_, rfl, cv0⟩, ⟨_, rfl, cv0⟩, ⟨_, rfl, cv0⟩, ⟨_, rfl, cv0⟩, ⟨_, rfl, cv0⟩, ⟨_, rfl, cv0⟩, ⟨_, rfl, cv0⟩, trivial⟩ ⟨cvo0, cvo0, cvo0, trivial⟩))
                  · exact hx.elim
                · rintro i32 ⟨s34, s35⟩ o ho
                  refine awc_seq ?_
                  refine awc_region ?_
                  refine awl_v (av_lss rfl rfl) ?_
                  refine awl_nil (athen_norm (awc_seq ?_))
                  refine awc_cond (b := decide (i32 < (List.length p1 : Int))) rfl (fun hc41 => ?_) (fun hc41 => ?_)
                  · obtain ⟨q, hr, rfl⟩ := rb_t hc41 ho
                    refine awc_skip (athen_norm ?_)
                    obtain ⟨o44, e45, hr⟩ := bnd_some hr
                    refine awc_join (S := (List (Str × Bool)) × List (List Int)) (R := Unit) (fun s => match s with | (s42, s43) => (⟨[(1, .sl Y1 p1), (4, .int .i64 0), (5, .int .i64 0), (6, .sl (.int .i64) x5), (7, .sl (.slice .bool) x7), (8, .osl 0), (9, .int .i64 (w64 (s10 + (List.length s11 : Int)))), (10, .map 1), (11, .osl 2), (13, .sl (.int .i64) x30), (48, .osl 0), (49, .int .i64 (List.length s11 : Int)), (50, .int .i64 i20), (54, .sl Y1 p1), (55, .int .i64 (List.length p1 : Int)), (56, .int .i64 i32)], [(0, .sl 38 (.slice (.int .i64)) s11), (1, .map .str .bool s42), (2, .sl 38 (.slice (.int .i64)) s43)], 3⟩ : AS)) (fun _ _ _ => False) e45 (fun hr => ?_) ?_ ?_
                    · refine awc_block (awc_seq ?_)
                      refine awc_region ?_
                      refine awl_v (av_move rfl) ?_
                      obtain ⟨x46, e47, hr⟩ := bnd_some hr
                      refine awl_v (av_ia_sl (t := Y1) (e := x46) und22 sz30 rfl rfl e47) ?_
                      refine awl_v (av_load_rpN ts30 rfl rfl rfl) ?_
                      refine awl_op (aop_alloc zero30 rfl ?_)
                      refine awl_v (av_assign rfl) ?_
                      refine awl_op (aop_store sz30 rfl rfl rfl rfl rfl rfl rfl ?_)
                      refine awl_nil (athen_norm (awc_seq (awc_seq ?_)))
                      obtain ⟨x48, e49, hr⟩ := bnd_some hr
                      obtain ⟨x50, e51, hr⟩ := bnd_some hr
                      refine awc_draw mixed [1, 4, 5, 6, 7, 8, 9, 10, 11, 13, 48, 49, 50, 54, 55, 56, 15, 14] [(true, .sl (.int .i64) x5), (true, .int .i64 i32), (true, .rp [.int .i64 x48]), (true, .int .i64 x48), (true, .sl (.int .i64) x30), (true, .ptr 3 0), (true, .int .i64 x46.1), (true, .rp [.int .i64 x50]), (true, .int .i64 x50), (true, .int .i64 (w64 (x50 + 1))), (true, .bool (!decide (x48 = (w64 (x50 + 1)))))] [[], [], [0, 1], [2], [], [], [5], [4, 6], [7], [8], [3, 9]] [10] rfl rfl rfl rfl rfl ⟨?_, ?_, ?_, ?_, ?_, ?_, ?_, ?_, ?_, ?_, ?_, trivial⟩ (allT_of ⟨rfl, trivial⟩) ?_
                      · exact ob_v rfl (fun hg => allT_of trivial) (fun hg => av_move rfl)
                      · exact ob_v rfl (fun hg => allT_of trivial) (fun hg => av_move rfl)
                      · exact ob_v rfl (fun hg => allT_of ⟨rfl, rfl, trivial⟩) (fun hg => av_ia_sl (t := (.int .i64)) (e := x48) und38 sz3 rfl rfl e49)
                      · exact ob_v rfl (fun hg => allT_of ⟨rfl, trivial⟩) (fun hg => av_load_rp ts3 rfl)
                      · exact ob_v rfl (fun hg => allT_of trivial) (fun hg => av_move rfl)
                      · exact ob_v rfl (fun hg => allT_of trivial) (fun hg => av_fa_ptr fa30_0 rfl rfl)
                      · exact ob_v rfl (fun hg => allT_of ⟨rfl, trivial⟩) (fun hg => av_load_ptr ts3 rfl rfl rfl)
                      · exact ob_v rfl (fun hg => allT_of ⟨rfl, rfl, trivial⟩) (fun hg => av_ia_sl (t := (.int .i64)) (e := x50) und38 sz3 rfl rfl e51)
                      · exact ob_v rfl (fun hg => allT_of ⟨rfl, trivial⟩) (fun hg => av_load_rp ts3 rfl)
                      · exact ob_v rfl (fun hg => allT_of ⟨rfl, trivial⟩) (fun hg => av_add rfl rfl)
                      · exact ob_v rfl (fun hg => allT_of ⟨rfl, rfl, trivial⟩) (fun hg => av_neq rfl rfl)
                      refine athen_norm ?_
                      refine awc_cond (b := !decide (x48 = (w64 (x50 + 1)))) rfl (fun hc52 => ?_) (fun hc52 => ?_)
                      · have hr := if_t hc52 hr
                        have hr := Option.some.inj hr
                        subst hr
                        exact awc_exit (athen_exit (ablock_here ((wk_of hX [0, 1, 2] 4 rfl rfl ⟨⟨_, rfl, cv0⟩, ⟨_, rfl, cv0⟩, ⟨_, rfl, cv0⟩, ⟨_, rfl, cv0⟩, ⟨_, rfl, cv0⟩, ⟨_, rfl, cv0⟩, ⟨_, rfl, cv0⟩, ⟨_, rfl, cv0⟩, ⟨_, rfl, cv0⟩, ⟨_, rfl, cv0⟩, ⟨_, rfl, cv0⟩, ⟨_, rfl, cv0⟩, ⟨_, rfl, cv0⟩, ⟨_, rfl, cv0⟩, ⟨_, rfl, cv0⟩, ⟨_, rfl, cv0⟩, trivial⟩ ⟨cvo0, cvo0, cvo0, trivial⟩))))
                      · have hr := if_f hc52 hr
                        refine awc_skip (athen_norm (awc_seq ?_))
                        refine awc_region ?_
                        refine awl_v (av_move rfl) ?_
                        obtain ⟨h53, hr⟩ := chk_some hr
                        refine awl_op (aop_append_nil rfl rfl app38 rfl rfl h53 rfl ?_)
                        refine awl_v (av_assign rfl) ?_
                        refine awl_nil (athen_norm (awc_seq ?_))
                        refine awc_region ?_
                        refine awl_v (av_move rfl) ?_
                        refine awl_v (av_fa_ptr fa30_0 rfl rfl) ?_
                        refine awl_v (av_load_ptr ts3 rfl rfl rfl) ?_
                        refine awl_v (av_ia_osl (t := (.int .i64)) und38 sz3 rfl rfl rfl e51) ?_
                        refine awl_v (av_load_ep ts3 rfl rfl rfl (ix_at e51) rfl) ?_
                        refine awl_v (av_add rfl rfl) ?_
                        refine awl_v (av_ia_osl (t := (.int .i64)) und38 sz3 rfl rfl rfl e51) ?_
                        refine awl_op (aop_store_ep (e' := (w64 (x50 + 1))) sz3 rfl rfl rfl rfl (ix_at e51) rfl rfl rfl rfl rfl ?_)
                        refine awl_nil (athen_norm (awc_seq ?_))
                        refine awc_region ?_
                        refine awl_v (av_assign rfl) ?_
                        refine awl_nil (athen_norm (awc_seq (awc_seq ?_)))
                        refine awc_region ?_
                        refine awl_v (av_move rfl) ?_
                        refine awl_v (av_move rfl) ?_
                        obtain ⟨x54, e55, hr⟩ := bnd_some hr
                        refine awl_v (av_ia_sl (t := (.slice .bool)) (e := x54) und45 sz48 rfl rfl e55) ?_
                        refine awl_v (av_load_rp ts48 rfl) ?_
                        refine awl_v (av_len_sl (t := .bool) rfl rfl und48 rfl) ?_
                        refine awl_v (av_move rfl) ?_
                        refine awl_nil (athen_norm (awc_block ?_))
                        obtain ⟨o61, e62, hr⟩ := bnd_some hr
                        refine awc_len (t := 84) rfl (fun hl => ?_)
                        refine awc_range (S := Bool) (R := Unit) (List.length x54 : Int) (d7_b3 p1 x5 x30 x54) (fun p => match p with | (i56, s57) => (⟨[(1, .sl Y1 p1), (4, .int .i64 0), (5, .int .i64 0), (6, .sl (.int .i64) x5), (7, .sl (.slice .bool) x7), (8, .osl 0), (9, .int .i64 (w64 (s10 + (List.length s11 : Int)))), (10, .map 1), (11, .osl 2), (13, .sl (.int .i64) x30), (16, .osl 3), (17, .bool s57), (48, .osl 0), (49, .int .i64 (List.length s11 : Int)), (50, .int .i64 i20), (54, .sl Y1 p1), (55, .int .i64 (List.length p1 : Int)), (56, .int .i64 i32), (84, .sl .bool x54), (85, .int .i64 (List.length x54 : Int)), (86, .int .i64 i56)], [(0, .sl 38 (.slice (.int .i64)) s11), (1, .map .str .bool s34), (2, .sl 38 (.slice (.int .i64)) s35), (3, .sl 3 (.int .i64) (x30.set (Int.toNat x46.1) (w64 (x50 + 1))))], 4⟩ : AS)) (fun o e st => match o with | .inr _ => False | .inl s57 => e = .exit 6 ∧ Wk X st ⟨[(1, .sl Y1 p1), (4, .int .i64 0), (5, .int .i64 0), (6, .sl (.int .i64) x5), (7, .sl (.slice .bool) x7), (8, .osl 0), (9, .int .i64 (w64 (s10 + (List.length s11 : Int)))), (10, .map 1), (11, .osl 2), (13, .sl (.int .i64) x30), (16, .osl 3), (17, .bool s57), (48, .osl 0), (49, .int .i64 (List.length s11 : Int)), (50, .int .i64 i20), (54, .sl Y1 p1), (55, .int .i64 (List.length p1 : Int)), (56, .int .i64 i32)], [(0, .sl 38 (.slice (.int .i64)) s11), (1, .map .str .bool s34), (2, .sl 38 (.slice (.int .i64)) s35), (3, .sl 3 (.int .i64) (x30.set (Int.toNat x46.1) (w64 (x50 + 1))))], 4⟩) (len_ok hl) e62 (wk_of hX [0, 1, 2, 4] 4 rfl rfl ⟨⟨_, rfl, cv0⟩, ⟨_, rfl, cv0⟩, ⟨_, rfl, cv0⟩, ⟨_, rfl, cv0⟩, ⟨_, rfl, cv0⟩, ⟨_, rfl, cv0⟩, ⟨_, rfl, cv0⟩, ⟨_, rfl, cv0⟩, ⟨_, rfl, cv0⟩, ⟨_, rfl, cv0⟩, ⟨_, rfl, cv0⟩, ⟨_, rfl, cv0⟩, ⟨_, rfl, cv0⟩, ⟨_, rfl, cv0⟩, ⟨_, rfl, cv0⟩, ⟨_, rfl, cv0⟩, ⟨_, rfl, cv0⟩, ⟨_, rfl, cv0⟩, ⟨_, rfl, cv0⟩, ⟨_, rfl, cv0⟩, ⟨_, rfl, cv0⟩, trivial⟩ ⟨cvo0, cvo0, cvo0, cvo0, trivial⟩) ?_ ?_
                        · intro e st hx
                          rcases o61 with s57 | _
                          · obtain ⟨rfl, hw⟩ := hx
                            refine ablock_here (athen_norm ((awc_wk hw) (awc_seq ?_)))
                            refine awc_region ?_
                            refine awl_v (av_assign rfl) ?_
                            refine awl_nil (athen_norm (awc_seq (awc_seq ?_)))
                            refine awc_region ?_
                            refine awl_v (av_move rfl) ?_
                            refine awl_v (av_len_osl (t := (.int .i64)) rfl rfl und38 rfl rfl) ?_
                            refine awl_v (av_move rfl) ?_
                            refine awl_nil (athen_norm (awc_block ?_))
                            obtain ⟨o68, e69, hr⟩ := bnd_some hr
                            refine awc_lenO (i := 3) rfl rfl (fun hl => ?_)
                            refine awc_range (S := Str) (R := Unit) (List.length (x30.set (Int.toNat x46.1) (w64 (x50 + 1))) : Int) (d7_b4 x30 x46 x50) (fun p => match p with | (i63, s64) => (⟨[(1, .sl Y1 p1), (4, .int .i64 0), (5, .int .i64 0), (6, .sl (.int .i64) x5), (7, .sl (.slice .bool) x7), (8, .osl 0), (9, .int .i64 (w64 (s10 + (List.length s11 : Int)))), (10, .map 1), (11, .osl 2), (13, .sl (.int .i64) x30), (16, .osl 3), (17, .bool s57), (20, .str s64), (48, .osl 0), (49, .int .i64 (List.length s11 : Int)), (50, .int .i64 i20), (54, .sl Y1 p1), (55, .int .i64 (List.length p1 : Int)), (56, .int .i64 i32), (112, .osl 3), (113, .int .i64 (List.length (x30.set (Int.toNat x46.1) (w64 (x50 + 1))) : Int)), (114, .int .i64 i63)], [(0, .sl 38 (.slice (.int .i64)) s11), (1, .map .str .bool s34), (2, .sl 38 (.slice (.int .i64)) s35), (3, .sl 3 (.int .i64) (x30.set (Int.toNat x46.1) (w64 (x50 + 1))))], 4⟩ : AS)) (fun o e st => match o with | .inr _ => False | .inl s64 => e = .exit 8 ∧ Wk X st ⟨[(1, .sl Y1 p1), (4, .int .i64 0), (5, .int .i64 0), (6, .sl (.int .i64) x5), (7, .sl (.slice .bool) x7), (8, .osl 0), (9, .int .i64 (w64 (s10 + (List.length s11 : Int)))), (10, .map 1), (11, .osl 2), (13, .sl (.int .i64) x30), (16, .osl 3), (17, .bool s57), (20, .str s64), (48, .osl 0), (49, .int .i64 (List.length s11 : Int)), (50, .int .i64 i20), (54, .sl Y1 p1), (55, .int .i64 (List.length p1 : Int)), (56, .int .i64 i32)], [(0, .sl 38 (.slice (.int .i64)) s11), (1, .map .str .bool s34), (2, .sl 38 (.slice (.int .i64)) s35), (3, .sl 3 (.int .i64) (x30.set (Int.toNat x46.1) (w64 (x50 + 1))))], 4⟩) (len_ok hl) e69 (wk_of hX [0, 1, 2, 3] 4 rfl rfl ⟨⟨_, rfl, cv0⟩, ⟨_, rfl, cv0⟩, ⟨_, rfl, cv0⟩, ⟨_, rfl, cv0⟩, ⟨_, rfl, cv0⟩, ⟨_, rfl, cv0⟩, ⟨_, rfl, cv0⟩, ⟨_, rfl, cv0⟩, ⟨_, rfl, cv0⟩, ⟨_, rfl, cv0⟩, ⟨_, rfl, cv0⟩, ⟨_, rfl, cv0⟩, ⟨_, rfl, cv0⟩, ⟨_, rfl, cv0⟩, ⟨_, rfl, cv0⟩, ⟨_, rfl, cv0⟩, ⟨_, rfl, cv0⟩, ⟨_, rfl, cv0⟩, ⟨_, rfl, cv0⟩, ⟨_, rfl, cv0⟩, ⟨_, rfl, cv0⟩, ⟨_, rfl, cv0⟩, trivial⟩ ⟨cvo0, cvo0, cvo0, cvo0, trivial⟩) ?_ ?_
                            · intro e st hx
                              rcases o68 with s64 | _
                              · obtain ⟨rfl, hw⟩ := hx
                                refine ablock_here (athen_norm ((awc_wk hw) (awc_seq ?_)))
                                refine awc_text [1, 4, 5, 6, 7, 8, 9, 10, 11, 13, 16, 17, 20, 48, 49, 50, 54, 55, 56] [(true, .bool s57), (true, .bool s57), (s57, .map 1), (s57, .str s64), (s57, .bool ((mget s34 s64).getD false)), (s57, .bool (!((mget s34 s64).getD false))), (true, .bool (s57 && (!((mget s34 s64).getD false))))] [[], [0], [1], [1], [2, 3, 1], [4, 1], [5, 1]] [6] rfl rfl rfl rfl rfl ⟨?_, ?_, ?_, ?_, ?_, ?_, ?_, trivial⟩ (allT_of ⟨rfl, trivial⟩) ?_
                                · exact ob_v rfl (fun hg => allT_of trivial) (fun hg => av_move rfl)
                                · exact ob_v rfl (fun hg => allT_of ⟨rfl, trivial⟩) (fun hg => av_move rfl)
                                · exact ob_v ⟨rfl, rfl, rfl, _, rfl, rfl⟩ (fun hg => allT_of ⟨rfl, trivial⟩) (fun hg => av_move rfl)
                                · exact ob_v ⟨rfl, rfl, rfl, _, rfl, rfl⟩ (fun hg => allT_of ⟨rfl, trivial⟩) (fun hg => av_move rfl)
                                · exact ob_v ⟨rfl, rfl, rfl, _, rfl, rfl⟩ (fun hg => allT_of ⟨hg, hg, rfl, trivial⟩) (fun hg => av_lookup (kx := s64) (r := .bool ((mget s34 s64).getD false)) und47 kt9 zw4 rfl rfl rfl rfl rfl)
                                · exact ob_v ⟨rfl, rfl, rfl, _, rfl, rfl⟩ (fun hg => allT_of ⟨hg, rfl, trivial⟩) (fun hg => av_not rfl)
                                · exact ob_pick (b := true) (p := s57) (q := !((mget s34 s64).getD false)) rfl rfl rfl (fun hg => allT_of ⟨rfl, trivial⟩) rfl rfl rfl rfl rfl
                                refine athen_norm ?_
                                refine awc_cond (b := s57 && (!((mget s34 s64).getD false))) rfl (fun hc70 => ?_) (fun hc70 => ?_)
                                · have hr := if_t hc70 hr
                                  refine awc_seq ?_
                                  refine awc_region ?_
                                  refine awl_v (av_move rfl) ?_
                                  refine awl_v (av_move rfl) ?_
                                  refine awl_op (aop_mapSet (kx := s64) (vx := true) und47 kt9 (.inl rfl) rfl rfl rfl rfl rfl rfl rfl ?_)
                                  refine awl_nil (athen_norm ?_)
                                  refine awc_region ?_
                                  refine awl_v (av_move rfl) ?_
                                  refine awl_v (av_move rfl) ?_
                                  refine awl_wk (wk_frz [16, 134] 3 rfl rfl rfl) ?_
                                  refine awl_v (av_buildSlice (t := (.slice (.int .i64))) (qs := [(0, [.sl (.int .i64) (x30.set (Int.toNat x46.1) (w64 (x50 + 1)))])]) (ys := [(x30.set (Int.toNat x46.1) (w64 (x50 + 1)))]) bs34 rfl rfl rfl rfl rfl rfl rfl rfl) ?_
                                  obtain ⟨h71, hr⟩ := chk_some hr
                                  refine awl_op (aop_append rfl rfl app34 rfl rfl rfl h71 rfl ?_)
                                  refine awl_v (av_assign rfl) ?_
                                  have hr := Option.some.inj hr
                                  subst hr
                                  exact awl_nil (ablock_norm ((wk_of hX [0, 1, 4] 4 rfl rfl ⟨⟨_, rfl, cv0⟩, ⟨_, rfl, cv0⟩, ⟨_, rfl, cv0⟩, ⟨_, rfl, cv0⟩, ⟨_, rfl, cv0⟩, ⟨_, rfl, cv0⟩, ⟨_, rfl, cv0⟩, ⟨_, rfl, cv0⟩, ⟨_, rfl, cv0⟩, ⟨_, rfl, cv0⟩, ⟨_, rfl, cv0⟩, ⟨_, rfl, cv0⟩, ⟨_, rfl, cv0⟩, ⟨_, rfl, cv0⟩, ⟨_, rfl, cv0⟩, ⟨_, rfl, cv0⟩, trivial⟩ ⟨cvo0, cvo0, cvo0, trivial⟩)))
                                · have hr := if_f hc70 hr
                                  have hr := Option.some.inj hr
                                  subst hr
                                  exact awc_skip (ablock_norm ((wk_of hX [0, 1, 2] 4 rfl rfl ⟨⟨_, rfl, cv0⟩, ⟨_, rfl, cv0⟩, ⟨_, rfl, cv0⟩, ⟨_, rfl, cv0⟩, ⟨_, rfl, cv0⟩, ⟨_, rfl, cv0⟩, ⟨_, rfl, cv0⟩, ⟨_, rfl, cv0⟩, ⟨_, rfl, cv0⟩, ⟨_, rfl, cv0⟩, ⟨_, rfl, cv0⟩, ⟨_, rfl, cv0⟩, ⟨_, rfl, cv0⟩, ⟨_, rfl, cv0⟩, ⟨_, rfl, cv0⟩, ⟨_, rfl, cv0⟩, trivial⟩ ⟨cvo0, cvo0, cvo0, trivial⟩)))
                              · exact hx.elim
                            · rintro i63 s64 o ho
                              refine awc_seq ?_
                              refine awc_region ?_
                              refine awl_v (av_lss rfl rfl) ?_
                              refine awl_nil (athen_norm (awc_seq ?_))
                              refine awc_cond (b := decide (i63 < (List.length (x30.set (Int.toNat x46.1) (w64 (x50 + 1))) : Int))) rfl (fun hc72 => ?_) (fun hc72 => ?_)
                              · obtain ⟨q, hr, rfl⟩ := rb_t hc72 ho
                                refine awc_skip (athen_norm (awc_seq (awc_block (awc_seq ?_))))
                                refine awc_region ?_
                                obtain ⟨x73, e74, hr⟩ := bnd_some hr
                                refine awl_v (av_ia_osl (t := (.int .i64)) und38 sz3 rfl rfl rfl e74) ?_
                                refine awl_v (av_load_ep ts3 rfl rfl rfl (ix_at e74) rfl) ?_
                                refine awl_v (av_assign rfl) ?_
                                refine awl_nil (athen_norm ?_)
                                refine awc_region ?_
                                refine awl_v (av_move rfl) ?_
                                refine awl_v (av_move rfl) ?_
                                obtain ⟨x75, e76, hr⟩ := bnd_some hr
                                refine awl_v (av_call ((fItoa_runs e76).t hT) ent19 rfl rfl) ?_
                                obtain ⟨h77, hr⟩ := chk_some hr
                                refine awl_v (av_adds rfl rfl h77) ?_
                                obtain ⟨h78, hr⟩ := chk_some hr
                                refine awl_v (av_adds rfl rfl h78) ?_
                                refine awl_v (av_assign rfl) ?_
                                refine awl_nil (ablock_norm (athen_norm ?_))
                                refine awc_region ?_
                                refine awl_v (av_add rfl rfl) ?_
                                refine awl_v (av_move rfl) ?_
                                have hr := Option.some.inj hr
                                subst hr
                                exact awl_nil ((wk_of hX [0, 1, 2, 3] 4 rfl rfl ⟨⟨_, rfl, cv0⟩, ⟨_, rfl, cv0⟩, ⟨_, rfl, cv0⟩, ⟨_, rfl, cv0⟩, ⟨_, rfl, cv0⟩, ⟨_, rfl, cv0⟩, ⟨_, rfl, cv0⟩, ⟨_, rfl, cv0⟩, ⟨_, rfl, cv0⟩, ⟨_, rfl, cv0⟩, ⟨_, rfl, cv0⟩, ⟨_, rfl, cv0⟩, ⟨_, rfl, cv0⟩, ⟨_, rfl, cv0⟩, ⟨_, rfl, cv0⟩, ⟨_, rfl, cv0⟩, ⟨_, rfl, cv0⟩, ⟨_, rfl, cv0⟩, ⟨_, rfl, cv0⟩, ⟨_, rfl, cv0⟩, ⟨_, rfl, cv0⟩, ⟨_, rfl, cv0⟩, trivial⟩ ⟨cvo0, cvo0, cvo0, cvo0, trivial⟩))
                              · obtain rfl := rb_f hc72 ho
                                exact awc_exit (athen_exit (⟨rfl, (wk_of hX [0, 1, 2, 3] 4 rfl rfl ⟨⟨_, rfl, cv0⟩, ⟨_, rfl, cv0⟩, ⟨_, rfl, cv0⟩, ⟨_, rfl, cv0⟩, ⟨_, rfl, cv0⟩, ⟨_, rfl, cv0⟩, ⟨_, rfl, cv0⟩, ⟨_, rfl, cv0⟩, ⟨_, rfl, cv0⟩, ⟨_, rfl, cv0⟩, ⟨_, rfl, cv0⟩, ⟨_, rfl, cv0⟩, ⟨_, rfl, cv0⟩, ⟨_, rfl, cv0⟩, ⟨_, rfl, cv0⟩, ⟨_, rfl, cv0⟩, ⟨_, rfl, cv0⟩, ⟨_, rfl, cv0⟩, ⟨_, rfl, cv0⟩, trivial⟩ ⟨cvo0, cvo0, cvo0, cvo0, trivial⟩)⟩))
                          · exact hx.elim
                        · rintro i56 s57 o ho
                          refine awc_seq ?_
                          refine awc_region ?_
                          refine awl_v (av_lss rfl rfl) ?_
                          refine awl_nil (athen_norm (awc_seq ?_))
                          refine awc_cond (b := decide (i56 < (List.length x54 : Int))) rfl (fun hc79 => ?_) (fun hc79 => ?_)
                          · obtain ⟨q, hr, rfl⟩ := rb_t hc79 ho
                            refine awc_skip (athen_norm (awc_seq (awc_block (awc_seq ?_))))
                            refine awc_region ?_
                            refine awl_v (av_move rfl) ?_
                            obtain ⟨x80, e81, hr⟩ := bnd_some hr
                            refine awl_v (av_ia_sl (t := .bool) (e := x80) und48 sz4 rfl rfl e81) ?_
                            refine awl_v (av_load_rp ts4 rfl) ?_
                            refine awl_v (av_assign rfl) ?_
                            refine awl_v (av_assign rfl) ?_
                            refine awl_nil (athen_norm ?_)
                            obtain ⟨h82, hr⟩ := chk_some hr
                            obtain ⟨h83, hr⟩ := chk_some hr
                            obtain ⟨h84, hr⟩ := chk_some hr
                            refine awc_draw_tail2 20 [20, 20, 20, 20, 20, 20, 20, 20, 20, 20, 20, 20, 20, 20, 20, 20, 20, 20, 20, 20] mixed [1, 4, 5, 6, 7, 8, 9, 10, 11, 13, 16, 17, 48, 49, 50, 54, 55, 56, 84, 85, 86, 18, 19] [(true, .bool s57), (true, .bool s57), (s57, .bool x80), (s57, .bool (!x80)), (s57, .bool (!x80)), (s57 && (!(!x80)), .sl (.int .i64) x5), (s57 && (!(!x80)), .int .i64 i56), (s57 && (!(!x80)), .rp [.int .i64 ((ix x5 i56).getD default)]), (s57 && (!(!x80)), .int .i64 ((ix x5 i56).getD default)), (s57 && (!(!x80)), .sl (.int .i64) x30), (s57 && (!(!x80)), .sl Y1 p1), (s57 && (!(!x80)), .int .i64 i56), (s57 && (!(!x80)), .rp [.int .i64 ((((ix p1 i56).getD default)).1), .int .i64 (((((ix p1 i56).getD default)).2).1), .int .i64 ((((((ix p1 i56).getD default)).2).2).1), .int .i64 (((((((ix p1 i56).getD default)).2).2).2).1), .str (((((((ix p1 i56).getD default)).2).2).2).2)]), (s57 && (!(!x80)), .rp [.int .i64 ((((ix p1 i56).getD default)).1), .int .i64 (((((ix p1 i56).getD default)).2).1), .int .i64 ((((((ix p1 i56).getD default)).2).2).1), .int .i64 (((((((ix p1 i56).getD default)).2).2).2).1), .str (((((((ix p1 i56).getD default)).2).2).2).2)]), (s57 && (!(!x80)), .int .i64 ((((ix p1 i56).getD default)).1)), (s57 && (!(!x80)), .rp [.int .i64 ((ix x30 ((((ix p1 i56).getD default)).1)).getD default)]), (s57 && (!(!x80)), .int .i64 ((ix x30 ((((ix p1 i56).getD default)).1)).getD default)), (s57 && (!(!x80)), .bool (decide (((ix x5 i56).getD default) ≤ ((ix x30 ((((ix p1 i56).getD default)).1)).getD default)))), (s57, .bool ((!x80) || (decide (((ix x5 i56).getD default) ≤ ((ix x30 ((((ix p1 i56).getD default)).1)).getD default))))), (true, .bool (s57 && ((!x80) || (decide (((ix x5 i56).getD default) ≤ ((ix x30 ((((ix p1 i56).getD default)).1)).getD default))))))] [[], [0], [1], [2, 1], [3, 1], [4], [4], [5, 6, 4], [7, 4], [4], [4], [4], [10, 11, 4], [12, 4], [13, 4], [9, 14, 4], [15, 4], [8, 16, 4], [17, 4, 1], [18, 1]] [19] rfl rfl rfl rfl rfl rfl rfl rfl ⟨?_, ?_, ?_, ?_, ?_, ?_, ?_, ?_, ?_, ?_, ?_, ?_, ?_, ?_, ?_, ?_, ?_, ?_, ?_, ?_, trivial⟩ (allT_of ⟨rfl, trivial⟩) ?_
                            · exact ob_v rfl (fun hg => allT_of trivial) (fun hg => av_move rfl)
                            · exact ob_v rfl (fun hg => allT_of ⟨rfl, trivial⟩) (fun hg => av_move rfl)
                            · exact ob_v ⟨rfl, rfl, rfl, _, rfl, rfl⟩ (fun hg => allT_of ⟨rfl, trivial⟩) (fun hg => av_move rfl)
                            · exact ob_v ⟨rfl, rfl, rfl, _, rfl, rfl⟩ (fun hg => allT_of ⟨hg, rfl, trivial⟩) (fun hg => av_not rfl)
                            · exact ob_v ⟨rfl, rfl, rfl, _, rfl, rfl⟩ (fun hg => allT_of ⟨hg, rfl, trivial⟩) (fun hg => av_move rfl)
                            · exact ob_v ⟨rfl, rfl, rfl, _, rfl, rfl⟩ (fun hg => allT_of ⟨(and_l hg), trivial⟩) (fun hg => av_move rfl)
                            · exact ob_v ⟨rfl, rfl, rfl, _, rfl, rfl⟩ (fun hg => allT_of ⟨(and_l hg), trivial⟩) (fun hg => av_move rfl)
                            · exact ob_v ⟨rfl, rfl, rfl, _, rfl, rfl⟩ (fun hg => allT_of ⟨hg, hg, (and_l hg), trivial⟩) (fun hg => av_ia_sl (t := (.int .i64)) (e := ((ix x5 i56).getD default)) und38 sz3 rfl rfl (get_g h82 hg))
                            · exact ob_v ⟨rfl, rfl, rfl, _, rfl, rfl⟩ (fun hg => allT_of ⟨hg, (and_l hg), trivial⟩) (fun hg => av_load_rp ts3 rfl)
                            · exact ob_v ⟨rfl, rfl, rfl, _, rfl, rfl⟩ (fun hg => allT_of ⟨(and_l hg), trivial⟩) (fun hg => av_move rfl)
                            · exact ob_v ⟨rfl, rfl, rfl, _, rfl, rfl⟩ (fun hg => allT_of ⟨(and_l hg), trivial⟩) (fun hg => av_move rfl)
                            · exact ob_v ⟨rfl, rfl, rfl, _, rfl, rfl⟩ (fun hg => allT_of ⟨(and_l hg), trivial⟩) (fun hg => av_move rfl)
                            · exact ob_v ⟨rfl, rfl, rfl, _, rfl, rfl⟩ (fun hg => allT_of ⟨hg, hg, (and_l hg), trivial⟩) (fun hg => av_ia_sl (t := Y1) (e := ((ix p1 i56).getD default)) und22 sz30 rfl rfl (get_g h83 hg))
                            · exact ob_v ⟨rfl, rfl, rfl, _, rfl, rfl⟩ (fun hg => allT_of ⟨hg, (and_l hg), trivial⟩) (fun hg => av_fa_rp fa30_0 rfl rfl)
                            · exact ob_v ⟨rfl, rfl, rfl, _, rfl, rfl⟩ (fun hg => allT_of ⟨hg, (and_l hg), trivial⟩) (fun hg => av_load_rp ts3 rfl)
                            · exact ob_v ⟨rfl, rfl, rfl, _, rfl, rfl⟩ (fun hg => allT_of ⟨hg, hg, (and_l hg), trivial⟩) (fun hg => av_ia_sl (t := (.int .i64)) (e := ((ix x30 ((((ix p1 i56).getD default)).1)).getD default)) und38 sz3 rfl rfl (get_g h84 hg))
                            · exact ob_v ⟨rfl, rfl, rfl, _, rfl, rfl⟩ (fun hg => allT_of ⟨hg, (and_l hg), trivial⟩) (fun hg => av_load_rp ts3 rfl)
                            · exact ob_v ⟨rfl, rfl, rfl, _, rfl, rfl⟩ (fun hg => allT_of ⟨hg, hg, (and_l hg), trivial⟩) (fun hg => av_leq rfl rfl)
                            · exact ob_pick (b := false) (p := !x80) (q := decide (((ix x5 i56).getD default) ≤ ((ix x30 ((((ix p1 i56).getD default)).1)).getD default))) ⟨rfl, rfl, rfl, _, rfl, rfl⟩ rfl rfl (fun hg => allT_of ⟨hg, rfl, trivial⟩) rfl rfl rfl rfl rfl
                            · exact ob_pick (b := true) (p := s57) (q := (!x80) || (decide (((ix x5 i56).getD default) ≤ ((ix x30 ((((ix p1 i56).getD default)).1)).getD default)))) rfl rfl rfl (fun hg => allT_of ⟨rfl, trivial⟩) rfl rfl rfl rfl rfl
                            refine awl_v (av_assign rfl) ?_
                            refine awl_nil (ablock_norm (athen_norm ?_))
                            refine awc_region ?_
                            refine awl_v (av_add rfl rfl) ?_
                            refine awl_v (av_move rfl) ?_
                            have hr := Option.some.inj hr
                            subst hr
                            exact awl_nil ((wk_of hX [0, 1, 2, 3] 4 rfl rfl ⟨⟨_, rfl, cv0⟩, ⟨_, rfl, cv0⟩, ⟨_, rfl, cv0⟩, ⟨_, rfl, cv0⟩, ⟨_, rfl, cv0⟩, ⟨_, rfl, cv0⟩, ⟨_, rfl, cv0⟩, ⟨_, rfl, cv0⟩, ⟨_, rfl, cv0⟩, ⟨_, rfl, cv0⟩, ⟨_, rfl, cv0⟩, ⟨_, rfl, cv0⟩, ⟨_, rfl, cv0⟩, ⟨_, rfl, cv0⟩, ⟨_, rfl, cv0⟩, ⟨_, rfl, cv0⟩, ⟨_, rfl, cv0⟩, ⟨_, rfl, cv0⟩, ⟨_, rfl, cv0⟩, ⟨_, rfl, cv0⟩, ⟨_, rfl, cv0⟩, trivial⟩ ⟨cvo0, cvo0, cvo0, cvo0, trivial⟩))
                          · obtain rfl := rb_f hc79 ho
                            exact awc_exit (athen_exit (⟨rfl, (wk_of hX [0, 1, 2, 3] 4 rfl rfl ⟨⟨_, rfl, cv0⟩, ⟨_, rfl, cv0⟩, ⟨_, rfl, cv0⟩, ⟨_, rfl, cv0⟩, ⟨_, rfl, cv0⟩, ⟨_, rfl, cv0⟩, ⟨_, rfl, cv0⟩, ⟨_, rfl, cv0⟩, ⟨_, rfl, cv0⟩, ⟨_, rfl, cv0⟩, ⟨_, rfl, cv0⟩, ⟨_, rfl, cv0⟩, ⟨_, rfl, cv0⟩, ⟨_, rfl, cv0⟩, ⟨_, rfl, cv0⟩, ⟨_, rfl, cv0⟩, ⟨_, rfl, cv0⟩, ⟨_, rfl, cv0⟩, trivial⟩ ⟨cvo0, cvo0, cvo0, cvo0, trivial⟩)⟩))
                    · rintro ⟨s42, s43⟩ rfl
                      refine awc_region ?_
                      refine awl_v (av_add rfl rfl) ?_
                      refine awl_v (av_move rfl) ?_
                      have hr := Option.some.inj hr
                      subst hr
                      exact awl_nil ((wk_of hX [0, 1, 2] 4 rfl rfl ⟨⟨_, rfl, cv0⟩, ⟨_, rfl, cv0⟩, ⟨_, rfl, cv0⟩, ⟨_, rfl, cv0⟩, ⟨_, rfl, cv0⟩, ⟨_, rfl, cv0⟩, ⟨_, rfl, cv0⟩, ⟨_, rfl, cv0⟩, ⟨_, rfl, cv0⟩, ⟨_, rfl, cv0⟩, ⟨_, rfl, cv0⟩, ⟨_, rfl, cv0⟩, ⟨_, rfl, cv0⟩, ⟨_, rfl, cv0⟩, ⟨_, rfl, cv0⟩, ⟨_, rfl, cv0⟩, trivial⟩ ⟨cvo0, cvo0, cvo0, trivial⟩))
                    · exact fun r h e st hne hx => hx.elim
                  · obtain rfl := rb_f hc41 ho
                    exact awc_exit (athen_exit (⟨rfl, (wk_of hX [0, 1, 2] 4 rfl rfl ⟨⟨_, rfl, cv0⟩, ⟨_, rfl, cv0⟩, ⟨_, rfl, cv0⟩, ⟨_, rfl, cv0⟩, ⟨_, rfl, cv0⟩, ⟨_, rfl, cv0⟩, ⟨_, rfl, cv0⟩, ⟨_, rfl, cv0⟩, ⟨_, rfl, cv0⟩, ⟨_, rfl, cv0⟩, ⟨_, rfl, cv0⟩, ⟨_, rfl, cv0⟩, trivial⟩ ⟨cvo0, cvo0, cvo0, trivial⟩)⟩))
              · obtain rfl := rb_f hc29 ho
                exact awc_exit (athen_exit (⟨rfl, (wk_of hX [0, 2] 4 rfl rfl ⟨⟨_, rfl, cv0⟩, ⟨_, rfl, cv0⟩, ⟨_, rfl, cv0⟩, ⟨_, rfl, cv0⟩, ⟨_, rfl, cv0⟩, ⟨_, rfl, cv0⟩, ⟨_, rfl, cv0⟩, ⟨_, rfl, cv0⟩, trivial⟩ ⟨cvo0, cvo0, trivial⟩)⟩))
        · have hr := if_f hc18 hr
          have hr := Option.some.inj hr
          subst hr
          exact awc_exit (athen_exit (⟨rfl, (wk_of hX [] 4 rfl rfl ⟨⟨_, rfl, cv0⟩, ⟨_, rfl, cv0⟩, ⟨_, rfl, cv0⟩, trivial⟩ trivial)⟩))
theorem d3_runs {p0 : Int} {p1 : List (Int × Int × Int × Int × Str)} {r : Bool} (hr : d3 p0 p1 = some r) : RunsT (TabM tabsZ) Tryd.prog 3 [.int .i64 p0, .sl Y1 p1] [] (fun q H' => q = [.bool r] ∧ H' = []) := by
  refine runs_wT Tryd.func3 Tryd.ntmps3 rfl (rs := [.tmp 4]) rfl rfl fun w0 X hT hX => ?_
  refine awc_seq ?_
  refine awc_region ?_
  refine awl_v (av_assign rfl) ?_
  refine awl_nil (athen_norm (awc_seq (awc_seq ?_)))
  obtain ⟨x1, e2, hr⟩ := bnd_some hr
  refine awc_text [0, 1, 4] [(true, .sl Y1 p1), (true, .bool x1), (true, .bool (!x1)), (true, .bool (!x1)), (!(!x1), .sl Y1 p1), (!(!x1), .int .i64 (List.length p1 : Int)), (!(!x1), .bool (decide (16 < (List.length p1 : Int)))), (true, .bool ((!x1) || (decide (16 < (List.length p1 : Int)))))] [[], [0], [1], [2], [3], [4, 3], [5, 3], [6, 3]] [7] rfl rfl rfl rfl rfl ⟨?_, ?_, ?_, ?_, ?_, ?_, ?_, ?_, trivial⟩ (allT_of ⟨rfl, trivial⟩) ?_
  · exact ob_v rfl (fun hg => allT_of trivial) (fun hg => av_move rfl)
  · exact ob_v rfl (fun hg => allT_of ⟨rfl, trivial⟩) (fun hg => av_call (f14_runs e2).x ent4 rfl rfl)
  · exact ob_v rfl (fun hg => allT_of ⟨rfl, trivial⟩) (fun hg => av_not rfl)
  · exact ob_v rfl (fun hg => allT_of ⟨rfl, trivial⟩) (fun hg => av_move rfl)
  · exact ob_v ⟨rfl, rfl, rfl, _, rfl, rfl⟩ (fun hg => allT_of ⟨rfl, trivial⟩) (fun hg => av_move rfl)
  · exact ob_v ⟨rfl, rfl, rfl, _, rfl, rfl⟩ (fun hg => allT_of ⟨hg, rfl, trivial⟩) (fun hg => av_len_sl (t := Y1) rfl rfl und22 rfl)
  · exact ob_v ⟨rfl, rfl, rfl, _, rfl, rfl⟩ (fun hg => allT_of ⟨hg, rfl, trivial⟩) (fun hg => av_gtr rfl rfl)
  · exact ob_pick (b := false) (p := !x1) (q := decide (16 < (List.length p1 : Int))) rfl rfl rfl (fun hg => allT_of ⟨rfl, trivial⟩) rfl rfl rfl rfl rfl
  refine athen_norm ?_
  refine awc_cond (b := (!x1) || (decide (16 < (List.length p1 : Int)))) rfl (fun hc3 => ?_) (fun hc3 => ?_)
  · have hr := if_t hc3 hr
    refine awc_seq ?_
    refine awc_region ?_
    obtain ⟨x4, e5, hr⟩ := bnd_some hr
    refine awl_v (av_call (f8_runs e5).x ent5 rfl rfl) ?_
    refine awl_v (av_assign rfl) ?_
    have hr := Option.some.inj hr
    subst hr
    exact awl_nil (athen_norm (awc_ret (athen_ret (ret_q (l' := [(4, .bool x4)]) (wk_of hX [] 4 rfl rfl ⟨⟨_, rfl, cv0⟩, trivial⟩ trivial) rfl ⟨rfl, trivial⟩))))
  · have hr := if_f hc3 hr
    refine awc_skip (athen_norm (awc_seq ?_))
    refine awc_region ?_
    refine awl_v (av_move rfl) ?_
    refine awl_v (av_move rfl) ?_
    obtain ⟨x6, e7, hr⟩ := bnd_some hr
    refine awl_v (av_call (d6_runs e7).x ent6 rfl rfl) ?_
    refine awl_v (av_move rfl) ?_
    refine awl_v (av_extract rfl rfl) ?_
    refine awl_v (av_extract rfl rfl) ?_
    refine awl_v (av_assign rfl) ?_
    refine awl_v (av_assign rfl) ?_
    refine awl_nil (athen_norm (awc_seq ?_))
    refine awc_region ?_
    refine awl_v (av_move rfl) ?_
    refine awl_v (av_move rfl) ?_
    obtain ⟨x8, e9, hr⟩ := bnd_some hr
    refine awl_v (av_call ((d7_runs e9).t hT) ent7 rfl rfl) ?_
    refine awl_v (av_move rfl) ?_
    refine awl_v (av_extract rfl rfl) ?_
    refine awl_v (av_extract rfl rfl) ?_
    refine awl_v (av_assign rfl) ?_
    refine awl_v (av_assign rfl) ?_
    refine awl_nil (athen_norm (awc_seq ?_))
    obtain ⟨h10, hr⟩ := chk_some hr
    refine awc_text [5, 6, 7, 8] [(true, .int .i64 x6.1), (true, .int .i64 x8.1), (true, .bool (decide (x6.1 = x8.1))), (true, .bool (decide (x6.1 = x8.1))), (decide (x6.1 = x8.1), .int .i64 x6.2), (decide (x6.1 = x8.1), .int .i64 x8.2), (decide (x6.1 = x8.1), .bool (decide (x6.2 = x8.2))), (true, .bool ((decide (x6.1 = x8.1)) && (decide (x6.2 = x8.2)))), (true, .bool ((decide (x6.1 = x8.1)) && (decide (x6.2 = x8.2)))), ((decide (x6.1 = x8.1)) && (decide (x6.2 = x8.2)), .bool ((f8).getD default)), (true, .bool (((decide (x6.1 = x8.1)) && (decide (x6.2 = x8.2))) && ((f8).getD default))), (true, .bool (((decide (x6.1 = x8.1)) && (decide (x6.2 = x8.2))) && ((f8).getD default)))] [[], [], [0, 1], [2], [3], [3], [4, 5, 3], [6, 3], [7], [8], [9, 8], [10]] [11] rfl rfl rfl rfl rfl ⟨?_, ?_, ?_, ?_, ?_, ?_, ?_, ?_, ?_, ?_, ?_, ?_, trivial⟩ (allT_of ⟨rfl, trivial⟩) ?_
    · exact ob_v rfl (fun hg => allT_of trivial) (fun hg => av_move rfl)
    · exact ob_v rfl (fun hg => allT_of trivial) (fun hg => av_move rfl)
    · exact ob_v rfl (fun hg => allT_of ⟨rfl, rfl, trivial⟩) (fun hg => av_eql rfl rfl)
    · exact ob_v rfl (fun hg => allT_of ⟨rfl, trivial⟩) (fun hg => av_move rfl)
    · exact ob_v ⟨rfl, rfl, rfl, _, rfl, rfl⟩ (fun hg => allT_of ⟨rfl, trivial⟩) (fun hg => av_move rfl)
    · exact ob_v ⟨rfl, rfl, rfl, _, rfl, rfl⟩ (fun hg => allT_of ⟨rfl, trivial⟩) (fun hg => av_move rfl)
    · exact ob_v ⟨rfl, rfl, rfl, _, rfl, rfl⟩ (fun hg => allT_of ⟨hg, hg, rfl, trivial⟩) (fun hg => av_eql rfl rfl)
    · exact ob_pick (b := true) (p := decide (x6.1 = x8.1)) (q := decide (x6.2 = x8.2)) rfl rfl rfl (fun hg => allT_of ⟨rfl, trivial⟩) rfl rfl rfl rfl rfl
    · exact ob_v rfl (fun hg => allT_of ⟨rfl, trivial⟩) (fun hg => av_move rfl)
    · exact ob_v ⟨rfl, rfl, rfl, _, rfl, rfl⟩ (fun hg => allT_of ⟨rfl, trivial⟩) (fun hg => av_call (f8_runs (get_g h10 hg)).x ent5 rfl rfl)
    · exact ob_pick (b := true) (p := (decide (x6.1 = x8.1)) && (decide (x6.2 = x8.2))) (q := ((f8).getD default)) rfl rfl rfl (fun hg => allT_of ⟨rfl, trivial⟩) rfl rfl rfl rfl rfl
    · exact ob_v rfl (fun hg => allT_of ⟨rfl, trivial⟩) (fun hg => av_assign rfl)
    have hr := Option.some.inj hr
    subst hr
    exact athen_norm (awc_ret (ret_q (l' := [(4, .bool (((decide (x6.1 = x8.1)) && (decide (x6.2 = x8.2))) && ((f8).getD default)))]) (wk_of hX [] 4 rfl rfl ⟨⟨_, rfl, cv0⟩, trivial⟩ trivial) rfl ⟨rfl, trivial⟩))
end Go.Ab

