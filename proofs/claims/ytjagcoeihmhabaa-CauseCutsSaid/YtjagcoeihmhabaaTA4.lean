/- Lemmas for a law of the seat: what functions of the program do, each stated as a contract of its own (TA4). -/
import Derived.Test.YtjagcoeihmhabaaLayT
import Derived.Test.YtjagcoeihmhabaaAb2
import Derived.Test.YtjagcoeihmhabaaChecked
import Derived.Test.YtjagcoeihmhabaaTAd
import Derived.Test.YtjagcoeihmhabaaTA3
set_option linter.unusedVariables false
set_option maxRecDepth 100000
namespace Go.Ab
open Go.RowKit Go.Shelf Go.Proofs Go.Eng
theorem ent53 : Enters Try.prog 53 := enters_of Try.func53 (by kernel_rfl) rfl
theorem ent23 : Enters Try.prog 23 := enters_of Try.func23 (by kernel_rfl) rfl
theorem ent65 : Enters Try.prog 65 := enters_of Try.func65 (by kernel_rfl) rfl
theorem ent67 : Enters Try.prog 67 := enters_of Try.func67 (by kernel_rfl) rfl
theorem ent66 : Enters Try.prog 66 := enters_of Try.func66 (by kernel_rfl) rfl
theorem zero3 : Eng.Zero Try.prog 3 (.int .i64 0) := fun w => by kernel_rfl
theorem ent72 : Enters Try.prog 72 := enters_of Try.func72 (by kernel_rfl) rfl
theorem ent71 : Enters Try.prog 71 := enters_of Try.func71 (by kernel_rfl) rfl
theorem ent74 : Enters Try.prog 74 := enters_of Try.func74 (by kernel_rfl) rfl
theorem f67_runs {p0 : Int} {p1 : List (Int × Int × Int × Int × Str)} {r : List Int} (hr : f67 p0 p1 = some r) : RunsP Try.prog 67 [.int .i64 p0, .sl Y1 p1] [.sl (.int .i64) r] := by
  refine runs_w Try.func67 Try.ntmps67 rfl (rs := [.tmp 4]) rfl rfl fun w0 X hX => ?_
  refine awc_seq ?_
  refine awc_region ?_
  refine awl_v (av_assign rfl) ?_
  refine awl_nil (athen_norm (awc_seq ?_))
  refine awc_region ?_
  refine awl_v (av_move rfl) ?_
  obtain ⟨h1, hr⟩ := chk_some hr
  refine awl_op (aop_make (t := (.int .i64)) und22 zt3 rfl rfl h1 rfl ?_)
  refine awl_v (av_assign rfl) ?_
  refine awl_nil (athen_norm (awc_seq ?_))
  refine awc_region ?_
  refine awl_v (av_assign rfl) ?_
  refine awl_nil (athen_norm (awc_seq (awc_seq ?_)))
  refine awc_region ?_
  refine awl_v (av_move rfl) ?_
  refine awl_v (av_len_sl (t := Y1) rfl rfl und30 rfl) ?_
  refine awl_v (av_move rfl) ?_
  refine awl_nil (athen_norm (awc_block ?_))
  obtain ⟨o9, e10, hr⟩ := bnd_some hr
  refine awc_len (t := 1) rfl (fun hl => ?_)
  refine awc_range (S := List Int × List Int) (R := Unit) (List.length p1 : Int) (f67_b0 p1) (fun p => match p with | (i2, s4, s5) => (⟨[(4, .nils), (5, .osl 0), (6, .osl 1), (11, .sl Y1 p1), (12, .int .i64 (List.length p1 : Int)), (13, .int .i64 i2)], [(0, .sl 3 (.int .i64) s4), (1, .sl 3 (.int .i64) s5)], 2⟩ : AS)) (fun o e st => match o with | .inr _ => False | .inl (s4, s5) => e = .exit 0 ∧ Wk X st ⟨[(4, .nils), (6, .osl 0)], [(0, .sl 3 (.int .i64) s5)], 1⟩) (len_ok hl) e10 (Wk.trans (wk_own (t := 6) 3 (.int .i64) rfl) (wk_of hX [0, 1] 4 rfl rfl ⟨⟨_, rfl, cv0⟩, ⟨_, rfl, cv0⟩, ⟨_, rfl, cv0⟩, ⟨_, rfl, cv0⟩, ⟨_, rfl, cv0⟩, ⟨_, rfl, cv0⟩, trivial⟩ ⟨cvo0, cvo0, trivial⟩)) ?_ ?_
  · intro e st hx
    rcases o9 with ⟨s4, s5⟩ | _
    · obtain ⟨rfl, hw⟩ := hx
      refine ablock_here (athen_norm ((awc_wk hw) (awc_seq ?_)))
      refine awc_region ?_
      refine awl_v (av_move rfl) ?_
      refine awl_v (av_assign rfl) ?_
      have hr := Option.some.inj hr
      subst hr
      exact awl_nil (athen_norm (awc_ret (ret_q (l' := [(4, .sl (.int .i64) s5)]) (wk_of hX [] 4 rfl rfl ⟨⟨_, rfl, cv0⟩, trivial⟩ trivial) rfl ⟨rfl, trivial⟩)))
    · exact hx.elim
  · rintro i2 ⟨s4, s5⟩ o ho
    refine awc_seq ?_
    refine awc_region ?_
    refine awl_v (av_lss rfl rfl) ?_
    refine awl_nil (athen_norm (awc_seq ?_))
    refine awc_cond (b := decide (i2 < (List.length p1 : Int))) rfl (fun hc11 => ?_) (fun hc11 => ?_)
    · obtain ⟨q, hr, rfl⟩ := rb_t hc11 ho
      refine awc_skip (athen_norm (awc_seq (awc_block (awc_seq ?_))))
      refine awc_region ?_
      obtain ⟨x12, e13, hr⟩ := bnd_some hr
      refine awl_v (av_ia_sl (t := Y1) (e := x12) und30 sz50 rfl rfl e13) ?_
      refine awl_v (av_load_rpN ts50 rfl rfl rfl) ?_
      refine awl_op (aop_alloc zero50 rfl ?_)
      refine awl_op (aop_store sz50 rfl rfl rfl rfl rfl rfl rfl ?_)
      refine awl_nil (athen_norm (awc_seq ?_))
      refine awc_region ?_
      refine awl_v (av_move rfl) ?_
      refine awl_v (av_fa_ptr fa50_0 rfl rfl) ?_
      refine awl_v (av_load_ptr ts3 rfl rfl rfl) ?_
      obtain ⟨x14, e15, hr⟩ := bnd_some hr
      refine awl_v (av_ia_osl (t := (.int .i64)) und22 sz3 rfl rfl rfl e15) ?_
      refine awl_v (av_load_ep ts3 rfl rfl rfl (ix_at e15) rfl) ?_
      refine awl_v (av_add rfl rfl) ?_
      refine awl_v (av_ia_osl (t := (.int .i64)) und22 sz3 rfl rfl rfl e15) ?_
      refine awl_op (aop_store_ep (e' := (w64 (x14 + 1))) sz3 rfl rfl rfl rfl (ix_at e15) rfl rfl rfl rfl rfl ?_)
      refine awl_nil (athen_norm ?_)
      refine awc_region ?_
      refine awl_v (av_move rfl) ?_
      refine awl_v (av_move rfl) ?_
      refine awl_v (av_fa_ptr fa50_0 rfl rfl) ?_
      refine awl_v (av_load_ptr ts3 rfl rfl rfl) ?_
      obtain ⟨x16, e17, hr⟩ := bnd_some hr
      refine awl_v (av_ia_osl (t := (.int .i64)) und22 sz3 rfl rfl rfl e17) ?_
      refine awl_v (av_load_ep ts3 rfl rfl rfl (ix_at e17) rfl) ?_
      refine awl_v (av_buildSlice (t := (.int .i64)) (qs := [(0, [.int .i64 x16])]) (ys := [x16]) bs22 rfl rfl rfl rfl rfl rfl rfl rfl) ?_
      obtain ⟨h18, hr⟩ := chk_some hr
      refine awl_op (aop_append rfl rfl app22 rfl rfl rfl h18 rfl ?_)
      refine awl_v (av_assign rfl) ?_
      refine awl_nil (ablock_norm (athen_norm ?_))
      refine awc_region ?_
      refine awl_v (av_add rfl rfl) ?_
      refine awl_v (av_move rfl) ?_
      have hr := Option.some.inj hr
      subst hr
      exact awl_nil ((wk_of hX [0, 3] 4 rfl rfl ⟨⟨_, rfl, cv0⟩, ⟨_, rfl, cv0⟩, ⟨_, rfl, cv0⟩, ⟨_, rfl, cv0⟩, ⟨_, rfl, cv0⟩, ⟨_, rfl, cv0⟩, trivial⟩ ⟨cvo0, cvo0, trivial⟩))
    · obtain rfl := rb_f hc11 ho
      exact awc_exit (athen_exit (⟨rfl, (wk_of hX [1] 4 rfl rfl ⟨⟨_, rfl, cv0⟩, ⟨_, rfl, cv0⟩, trivial⟩ ⟨cvo0, trivial⟩)⟩))
theorem f66_runs {p0 : List (Int × Int × Int × Int × Str)} {p1 : List Int} {p2 : List (List Bool)} {p3 : List Int} {r : Bool} (hr : f66 p0 p1 p2 p3 = some r) : RunsP Try.prog 66 [.sl Y1 p0, .sl (.int .i64) p1, .sl (.slice .bool) p2, .sl (.int .i64) p3] [.bool r] := by
  refine runs_w Try.func66 Try.ntmps66 rfl (rs := [.tmp 8]) rfl rfl fun w0 X hX => ?_
  refine awc_seq ?_
  refine awc_region ?_
  refine awl_v (av_assign rfl) ?_
  refine awl_nil (athen_norm (awc_seq (awc_seq ?_)))
  refine awc_region ?_
  refine awl_v (av_move rfl) ?_
  refine awl_v (av_len_sl (t := Y1) rfl rfl und30 rfl) ?_
  refine awl_v (av_move rfl) ?_
  refine awl_nil (athen_norm (awc_block ?_))
  obtain ⟨o3, e4, hr⟩ := bnd_some hr
  refine awc_len (t := 0) rfl (fun hl => ?_)
  refine awc_range (S := Unit) (R := Unit) (List.length p0 : Int) (f66_b0 p0 p1 p2 p3) (fun p => match p with | (i1, ()) => (⟨[(0, .sl Y1 p0), (1, .sl (.int .i64) p1), (2, .sl (.slice .bool) p2), (3, .sl (.int .i64) p3), (8, .bool false), (13, .sl Y1 p0), (14, .int .i64 (List.length p0 : Int)), (15, .int .i64 i1)], [], 0⟩ : AS)) (fun o e st => match o with | .inl () => e = .exit 0 ∧ Wk X st ⟨[(8, .bool false)], [], 0⟩ | .inr () => e = .ret ∧ Wk X st ⟨[(8, .bool false)], [], 0⟩) (len_ok hl) e4 (wk_of hX [] 4 rfl rfl ⟨⟨_, rfl, cv0⟩, ⟨_, rfl, cv0⟩, ⟨_, rfl, cv0⟩, ⟨_, rfl, cv0⟩, ⟨_, rfl, cv0⟩, ⟨_, rfl, cv0⟩, ⟨_, rfl, cv0⟩, ⟨_, rfl, cv0⟩, trivial⟩ trivial) ?_ ?_
  · intro e st hx
    rcases o3 with _ | _
    · obtain ⟨rfl, hw⟩ := hx
      refine ablock_here (athen_norm ((awc_wk hw) (awc_seq ?_)))
      refine awc_region ?_
      refine awl_v (av_assign rfl) ?_
      have hr := Option.some.inj hr
      subst hr
      exact awl_nil (athen_norm (awc_ret (ret_q (l' := [(8, .bool true)]) (wk_of hX [] 4 rfl rfl ⟨⟨_, rfl, cv0⟩, trivial⟩ trivial) rfl ⟨rfl, trivial⟩)))
    · obtain ⟨rfl, hw⟩ := hx
      have hr := Option.some.inj hr
      subst hr
      exact ablock_ret (athen_ret (ret_q (l' := [(8, .bool false)]) (Wk.trans hw (wk_of hX [] 4 rfl rfl ⟨⟨_, rfl, cv0⟩, trivial⟩ trivial)) rfl ⟨rfl, trivial⟩))
  · rintro i1 _ o ho
    refine awc_seq ?_
    refine awc_region ?_
    refine awl_v (av_lss rfl rfl) ?_
    refine awl_nil (athen_norm (awc_seq ?_))
    refine awc_cond (b := decide (i1 < (List.length p0 : Int))) rfl (fun hc5 => ?_) (fun hc5 => ?_)
    · obtain ⟨q, hr, rfl⟩ := rb_t hc5 ho
      refine awc_skip (athen_norm ?_)
      obtain ⟨o6, e7, hr⟩ := bnd_some hr
      refine awc_join (S := Unit) (R := Unit) (fun s => match s with | () => (⟨[(0, .sl Y1 p0), (1, .sl (.int .i64) p1), (2, .sl (.slice .bool) p2), (3, .sl (.int .i64) p3), (8, .bool false), (13, .sl Y1 p0), (14, .int .i64 (List.length p0 : Int)), (15, .int .i64 i1)], [], 0⟩ : AS)) (fun r e st => match r with | () => e = .ret ∧ Wk X st ⟨[(8, .bool false)], [], 0⟩) e7 (fun hr => ?_) ?_ ?_
      · refine awc_block (awc_seq ?_)
        refine awc_region ?_
        refine awl_v (av_move rfl) ?_
        obtain ⟨x8, e9, hr⟩ := bnd_some hr
        refine awl_v (av_ia_sl (t := Y1) (e := x8) und30 sz50 rfl rfl e9) ?_
        refine awl_v (av_load_rpN ts50 rfl rfl rfl) ?_
        refine awl_op (aop_alloc zero50 rfl ?_)
        refine awl_v (av_assign rfl) ?_
        refine awl_op (aop_store sz50 rfl rfl rfl rfl rfl rfl rfl ?_)
        refine awl_nil (athen_norm (awc_seq (awc_seq ?_)))
        obtain ⟨x10, e11, hr⟩ := bnd_some hr
        obtain ⟨x12, e13, hr⟩ := bnd_some hr
        refine awc_draw mixed [0, 1, 2, 3, 8, 13, 14, 15, 10, 9] [(true, .sl (.int .i64) p1), (true, .int .i64 i1), (true, .rp [.int .i64 x10]), (true, .int .i64 x10), (true, .sl (.int .i64) p3), (true, .ptr 0 0), (true, .int .i64 x8.1), (true, .rp [.int .i64 x12]), (true, .int .i64 x12), (true, .bool (decide (x12 < x10)))] [[], [], [0, 1], [2], [], [], [5], [4, 6], [7], [3, 8]] [9] rfl rfl rfl rfl rfl ⟨?_, ?_, ?_, ?_, ?_, ?_, ?_, ?_, ?_, ?_, trivial⟩ (allT_of ⟨rfl, trivial⟩) ?_
        · exact ob_v rfl (fun hg => allT_of trivial) (fun hg => av_move rfl)
        · exact ob_v rfl (fun hg => allT_of trivial) (fun hg => av_move rfl)
        · exact ob_v rfl (fun hg => allT_of ⟨rfl, rfl, trivial⟩) (fun hg => av_ia_sl (t := (.int .i64)) (e := x10) und22 sz3 rfl rfl e11)
        · exact ob_v rfl (fun hg => allT_of ⟨rfl, trivial⟩) (fun hg => av_load_rp ts3 rfl)
        · exact ob_v rfl (fun hg => allT_of trivial) (fun hg => av_move rfl)
        · exact ob_v rfl (fun hg => allT_of trivial) (fun hg => av_fa_ptr fa50_0 rfl rfl)
        · exact ob_v rfl (fun hg => allT_of ⟨rfl, trivial⟩) (fun hg => av_load_ptr ts3 rfl rfl rfl)
        · exact ob_v rfl (fun hg => allT_of ⟨rfl, rfl, trivial⟩) (fun hg => av_ia_sl (t := (.int .i64)) (e := x12) und22 sz3 rfl rfl e13)
        · exact ob_v rfl (fun hg => allT_of ⟨rfl, trivial⟩) (fun hg => av_load_rp ts3 rfl)
        · exact ob_v rfl (fun hg => allT_of ⟨rfl, rfl, trivial⟩) (fun hg => av_gtr rfl rfl)
        refine athen_norm ?_
        refine awc_cond (b := decide (x12 < x10)) rfl (fun hc14 => ?_) (fun hc14 => ?_)
        · have hr := if_t hc14 hr
          have hr := Option.some.inj hr
          subst hr
          exact awc_exit (athen_exit (ablock_here ((wk_of hX [] 4 rfl rfl ⟨⟨_, rfl, cv0⟩, ⟨_, rfl, cv0⟩, ⟨_, rfl, cv0⟩, ⟨_, rfl, cv0⟩, ⟨_, rfl, cv0⟩, ⟨_, rfl, cv0⟩, ⟨_, rfl, cv0⟩, ⟨_, rfl, cv0⟩, trivial⟩ trivial))))
        · have hr := if_f hc14 hr
          refine awc_skip (athen_norm (awc_seq ?_))
          refine awc_region ?_
          refine awl_v (av_move rfl) ?_
          refine awl_v (av_move rfl) ?_
          obtain ⟨x15, e16, hr⟩ := bnd_some hr
          refine awl_v (av_ia_sl (t := (.slice .bool)) (e := x15) und38 sz40 rfl rfl e16) ?_
          refine awl_v (av_load_rp ts40 rfl) ?_
          refine awl_v (av_len_sl (t := .bool) rfl rfl und40 rfl) ?_
          refine awl_v (av_move rfl) ?_
          refine awl_nil (athen_norm (awc_block ?_))
          obtain ⟨o19, e20, hr⟩ := bnd_some hr
          refine awc_len (t := 33) rfl (fun hl => ?_)
          refine awc_range (S := Unit) (R := Unit) (List.length x15 : Int) (f66_b1 p0 p1 p3 x15) (fun p => match p with | (i17, ()) => (⟨[(0, .sl Y1 p0), (1, .sl (.int .i64) p1), (2, .sl (.slice .bool) p2), (3, .sl (.int .i64) p3), (8, .bool false), (13, .sl Y1 p0), (14, .int .i64 (List.length p0 : Int)), (15, .int .i64 i1), (33, .sl .bool x15), (34, .int .i64 (List.length x15 : Int)), (35, .int .i64 i17)], [], 0⟩ : AS)) (fun o e st => match o with | .inl () => e = .exit 2 ∧ Wk X st ⟨[(0, .sl Y1 p0), (1, .sl (.int .i64) p1), (2, .sl (.slice .bool) p2), (3, .sl (.int .i64) p3), (8, .bool false), (13, .sl Y1 p0), (14, .int .i64 (List.length p0 : Int)), (15, .int .i64 i1)], [], 0⟩ | .inr () => e = .ret ∧ Wk X st ⟨[(8, .bool false)], [], 0⟩) (len_ok hl) e20 (wk_of hX [] 4 rfl rfl ⟨⟨_, rfl, cv0⟩, ⟨_, rfl, cv0⟩, ⟨_, rfl, cv0⟩, ⟨_, rfl, cv0⟩, ⟨_, rfl, cv0⟩, ⟨_, rfl, cv0⟩, ⟨_, rfl, cv0⟩, ⟨_, rfl, cv0⟩, ⟨_, rfl, cv0⟩, ⟨_, rfl, cv0⟩, ⟨_, rfl, cv0⟩, trivial⟩ trivial) ?_ ?_
          · intro e st hx
            rcases o19 with _ | _
            · obtain ⟨rfl, hw⟩ := hx
              have hr := Option.some.inj hr
              subst hr
              exact ablock_here (ablock_norm ((Wk.trans hw (wk_of hX [] 4 rfl rfl ⟨⟨_, rfl, cv0⟩, ⟨_, rfl, cv0⟩, ⟨_, rfl, cv0⟩, ⟨_, rfl, cv0⟩, ⟨_, rfl, cv0⟩, ⟨_, rfl, cv0⟩, ⟨_, rfl, cv0⟩, ⟨_, rfl, cv0⟩, trivial⟩ trivial))))
            · obtain ⟨rfl, hw⟩ := hx
              have hr := Option.some.inj hr
              subst hr
              exact ablock_ret (ablock_ret (⟨rfl, (Wk.trans hw (wk_of hX [] 4 rfl rfl ⟨⟨_, rfl, cv0⟩, trivial⟩ trivial))⟩))
          · rintro i17 _ o ho
            refine awc_seq ?_
            refine awc_region ?_
            refine awl_v (av_lss rfl rfl) ?_
            refine awl_nil (athen_norm (awc_seq ?_))
            refine awc_cond (b := decide (i17 < (List.length x15 : Int))) rfl (fun hc21 => ?_) (fun hc21 => ?_)
            · obtain ⟨q, hr, rfl⟩ := rb_t hc21 ho
              refine awc_skip (athen_norm (awc_seq (awc_block (awc_seq ?_))))
              refine awc_region ?_
              refine awl_v (av_move rfl) ?_
              obtain ⟨x22, e23, hr⟩ := bnd_some hr
              refine awl_v (av_ia_sl (t := .bool) (e := x22) und40 sz4 rfl rfl e23) ?_
              refine awl_v (av_load_rp ts4 rfl) ?_
              refine awl_v (av_assign rfl) ?_
              refine awl_v (av_assign rfl) ?_
              refine awl_nil (athen_norm (awc_seq ?_))
              obtain ⟨h24, hr⟩ := chk_some hr
              obtain ⟨h25, hr⟩ := chk_some hr
              obtain ⟨h26, hr⟩ := chk_some hr
              refine awc_draw mixed [0, 1, 2, 3, 8, 13, 14, 15, 33, 34, 35, 11, 12] [(true, .bool x22), (true, .bool x22), (x22, .sl (.int .i64) p1), (x22, .int .i64 i17), (x22, .rp [.int .i64 ((ix p1 i17).getD default)]), (x22, .int .i64 ((ix p1 i17).getD default)), (x22, .sl (.int .i64) p3), (x22, .sl Y1 p0), (x22, .int .i64 i17), (x22, .rp [.int .i64 ((((ix p0 i17).getD default)).1), .int .i64 (((((ix p0 i17).getD default)).2).1), .int .i64 ((((((ix p0 i17).getD default)).2).2).1), .int .i64 (((((((ix p0 i17).getD default)).2).2).2).1), .str (((((((ix p0 i17).getD default)).2).2).2).2)]), (x22, .rp [.int .i64 ((((ix p0 i17).getD default)).1), .int .i64 (((((ix p0 i17).getD default)).2).1), .int .i64 ((((((ix p0 i17).getD default)).2).2).1), .int .i64 (((((((ix p0 i17).getD default)).2).2).2).1), .str (((((((ix p0 i17).getD default)).2).2).2).2)]), (x22, .int .i64 ((((ix p0 i17).getD default)).1)), (x22, .rp [.int .i64 ((ix p3 ((((ix p0 i17).getD default)).1)).getD default)]), (x22, .int .i64 ((ix p3 ((((ix p0 i17).getD default)).1)).getD default)), (x22, .bool (decide (((ix p3 ((((ix p0 i17).getD default)).1)).getD default) < ((ix p1 i17).getD default)))), (true, .bool (x22 && (decide (((ix p3 ((((ix p0 i17).getD default)).1)).getD default) < ((ix p1 i17).getD default)))))] [[], [0], [1], [1], [2, 3, 1], [4, 1], [1], [1], [1], [7, 8, 1], [9, 1], [10, 1], [6, 11, 1], [12, 1], [5, 13, 1], [14, 1]] [15] rfl rfl rfl rfl rfl ⟨?_, ?_, ?_, ?_, ?_, ?_, ?_, ?_, ?_, ?_, ?_, ?_, ?_, ?_, ?_, ?_, trivial⟩ (allT_of ⟨rfl, trivial⟩) ?_
              · exact ob_v rfl (fun hg => allT_of trivial) (fun hg => av_move rfl)
              · exact ob_v rfl (fun hg => allT_of ⟨rfl, trivial⟩) (fun hg => av_move rfl)
              · exact ob_v ⟨rfl, rfl, rfl, _, rfl, rfl⟩ (fun hg => allT_of ⟨rfl, trivial⟩) (fun hg => av_move rfl)
              · exact ob_v ⟨rfl, rfl, rfl, _, rfl, rfl⟩ (fun hg => allT_of ⟨rfl, trivial⟩) (fun hg => av_move rfl)
              · exact ob_v ⟨rfl, rfl, rfl, _, rfl, rfl⟩ (fun hg => allT_of ⟨hg, hg, rfl, trivial⟩) (fun hg => av_ia_sl (t := (.int .i64)) (e := ((ix p1 i17).getD default)) und22 sz3 rfl rfl (get_g h24 hg))
              · exact ob_v ⟨rfl, rfl, rfl, _, rfl, rfl⟩ (fun hg => allT_of ⟨hg, rfl, trivial⟩) (fun hg => av_load_rp ts3 rfl)
              · exact ob_v ⟨rfl, rfl, rfl, _, rfl, rfl⟩ (fun hg => allT_of ⟨rfl, trivial⟩) (fun hg => av_move rfl)
              · exact ob_v ⟨rfl, rfl, rfl, _, rfl, rfl⟩ (fun hg => allT_of ⟨rfl, trivial⟩) (fun hg => av_move rfl)
              · exact ob_v ⟨rfl, rfl, rfl, _, rfl, rfl⟩ (fun hg => allT_of ⟨rfl, trivial⟩) (fun hg => av_move rfl)
              · exact ob_v ⟨rfl, rfl, rfl, _, rfl, rfl⟩ (fun hg => allT_of ⟨hg, hg, rfl, trivial⟩) (fun hg => av_ia_sl (t := Y1) (e := ((ix p0 i17).getD default)) und30 sz50 rfl rfl (get_g h25 hg))
              · exact ob_v ⟨rfl, rfl, rfl, _, rfl, rfl⟩ (fun hg => allT_of ⟨hg, rfl, trivial⟩) (fun hg => av_fa_rp fa50_0 rfl rfl)
              · exact ob_v ⟨rfl, rfl, rfl, _, rfl, rfl⟩ (fun hg => allT_of ⟨hg, rfl, trivial⟩) (fun hg => av_load_rp ts3 rfl)
              · exact ob_v ⟨rfl, rfl, rfl, _, rfl, rfl⟩ (fun hg => allT_of ⟨hg, hg, rfl, trivial⟩) (fun hg => av_ia_sl (t := (.int .i64)) (e := ((ix p3 ((((ix p0 i17).getD default)).1)).getD default)) und22 sz3 rfl rfl (get_g h26 hg))
              · exact ob_v ⟨rfl, rfl, rfl, _, rfl, rfl⟩ (fun hg => allT_of ⟨hg, rfl, trivial⟩) (fun hg => av_load_rp ts3 rfl)
              · exact ob_v ⟨rfl, rfl, rfl, _, rfl, rfl⟩ (fun hg => allT_of ⟨hg, hg, rfl, trivial⟩) (fun hg => av_gtr rfl rfl)
              · exact ob_pick (b := true) (p := x22) (q := decide (((ix p3 ((((ix p0 i17).getD default)).1)).getD default) < ((ix p1 i17).getD default))) rfl rfl rfl (fun hg => allT_of ⟨rfl, trivial⟩) rfl rfl rfl rfl rfl
              refine athen_norm ?_
              refine awc_cond (b := x22 && (decide (((ix p3 ((((ix p0 i17).getD default)).1)).getD default) < ((ix p1 i17).getD default)))) rfl (fun hc27 => ?_) (fun hc27 => ?_)
              · have hr := if_t hc27 hr
                refine awc_seq ?_
                refine awc_region ?_
                refine awl_v (av_assign rfl) ?_
                have hr := Option.some.inj hr
                subst hr
                exact awl_nil (athen_norm (awc_ret (ablock_ret (athen_ret (⟨rfl, (wk_of hX [] 4 rfl rfl ⟨⟨_, rfl, cv0⟩, trivial⟩ trivial)⟩)))))
              · have hr := if_f hc27 hr
                refine awc_skip (ablock_norm (athen_norm ?_))
                refine awc_region ?_
                refine awl_v (av_add rfl rfl) ?_
                refine awl_v (av_move rfl) ?_
                have hr := Option.some.inj hr
                subst hr
                exact awl_nil ((wk_of hX [] 4 rfl rfl ⟨⟨_, rfl, cv0⟩, ⟨_, rfl, cv0⟩, ⟨_, rfl, cv0⟩, ⟨_, rfl, cv0⟩, ⟨_, rfl, cv0⟩, ⟨_, rfl, cv0⟩, ⟨_, rfl, cv0⟩, ⟨_, rfl, cv0⟩, ⟨_, rfl, cv0⟩, ⟨_, rfl, cv0⟩, ⟨_, rfl, cv0⟩, trivial⟩ trivial))
            · obtain rfl := rb_f hc21 ho
              exact awc_exit (athen_exit (⟨rfl, (wk_of hX [] 4 rfl rfl ⟨⟨_, rfl, cv0⟩, ⟨_, rfl, cv0⟩, ⟨_, rfl, cv0⟩, ⟨_, rfl, cv0⟩, ⟨_, rfl, cv0⟩, ⟨_, rfl, cv0⟩, ⟨_, rfl, cv0⟩, ⟨_, rfl, cv0⟩, trivial⟩ trivial)⟩))
      · rintro _ rfl
        refine awc_region ?_
        refine awl_v (av_add rfl rfl) ?_
        refine awl_v (av_move rfl) ?_
        have hr := Option.some.inj hr
        subst hr
        exact awl_nil ((wk_of hX [] 4 rfl rfl ⟨⟨_, rfl, cv0⟩, ⟨_, rfl, cv0⟩, ⟨_, rfl, cv0⟩, ⟨_, rfl, cv0⟩, ⟨_, rfl, cv0⟩, ⟨_, rfl, cv0⟩, ⟨_, rfl, cv0⟩, ⟨_, rfl, cv0⟩, trivial⟩ trivial))
      · rintro r rfl e st hne hx
        obtain ⟨rfl, hw⟩ := hx
        have hr := Option.some.inj hr
        subst hr
        exact ⟨rfl, (Wk.trans hw (wk_of hX [] 4 rfl rfl ⟨⟨_, rfl, cv0⟩, trivial⟩ trivial))⟩
    · obtain rfl := rb_f hc5 ho
      exact awc_exit (athen_exit (⟨rfl, (wk_of hX [] 4 rfl rfl ⟨⟨_, rfl, cv0⟩, trivial⟩ trivial)⟩))
theorem f33_runs {p0 : Int} {p1 : List (Int × Int × Int × Int × Str)} {p2 : List Int} {r : Bool × Int} (hr : f33 p0 p1 p2 = some r) : RunsP Try.prog 33 [.int .i64 p0, .sl Y1 p1, .sl (.int .i64) p2] [.bool r.1, .int .i64 r.2] := by
  refine runs_w Try.func33 Try.ntmps33 rfl (rs := [.tmp 6, .tmp 7]) rfl rfl fun w0 X hX => ?_
  refine awc_seq ?_
  refine awc_region ?_
  refine awl_v (av_assign rfl) ?_
  refine awl_v (av_assign rfl) ?_
  refine awl_nil (athen_norm (awc_seq (awc_seq ?_)))
  refine awc_region ?_
  refine awl_v (av_move rfl) ?_
  refine awl_v (av_move rfl) ?_
  refine awl_v (av_move rfl) ?_
  obtain ⟨x1, e2, hr⟩ := bnd_some hr
  refine awl_v (av_call (f65_runs e2) ent65 rfl rfl) ?_
  refine awl_v (av_assign rfl) ?_
  refine awl_nil (athen_norm (awc_seq ?_))
  refine awc_region ?_
  refine awl_v (av_move rfl) ?_
  refine awl_v (av_neq rfl rfl) ?_
  refine awl_nil (athen_norm ?_)
  refine awc_cond (b := !decide (x1 = 0)) rfl (fun hc3 => ?_) (fun hc3 => ?_)
  · have hr := if_t hc3 hr
    refine awc_seq ?_
    refine awc_region ?_
    refine awl_v (av_move rfl) ?_
    refine awl_v (av_assign rfl) ?_
    refine awl_v (av_assign rfl) ?_
    have hr := Option.some.inj hr
    subst hr
    exact awl_nil (athen_norm (awc_ret (athen_ret (ret_q (l' := [(6, .bool false), (7, .int .i64 x1)]) (wk_of hX [] 4 rfl rfl ⟨⟨_, rfl, cv0⟩, ⟨_, rfl, cv0⟩, trivial⟩ trivial) rfl ⟨rfl, rfl, trivial⟩))))
  · have hr := if_f hc3 hr
    refine awc_skip (athen_norm (awc_seq ?_))
    refine awc_region ?_
    refine awl_v (av_move rfl) ?_
    refine awl_v (av_move rfl) ?_
    refine awl_v (av_move rfl) ?_
    obtain ⟨x4, e5, hr⟩ := bnd_some hr
    refine awl_v (av_call (f67_runs e5) ent67 rfl rfl) ?_
    refine awl_v (av_move rfl) ?_
    obtain ⟨x6, e7, hr⟩ := bnd_some hr
    refine awl_v (av_call (f23_runs e7) ent23 rfl rfl) ?_
    refine awl_v (av_move rfl) ?_
    obtain ⟨x8, e9, hr⟩ := bnd_some hr
    refine awl_v (av_call (f66_runs e9) ent66 rfl rfl) ?_
    refine awl_v (av_assign rfl) ?_
    refine awl_v (av_assign rfl) ?_
    have hr := Option.some.inj hr
    subst hr
    exact awl_nil (athen_norm (awc_ret (ret_q (l' := [(6, .bool x8), (7, .int .i64 0)]) (wk_of hX [] 4 rfl rfl ⟨⟨_, rfl, cv0⟩, ⟨_, rfl, cv0⟩, trivial⟩ trivial) rfl ⟨rfl, rfl, trivial⟩)))
theorem f34_runs {p0 : Int} {p1 : List (Int × Int × Int × Int × Str)} {p2 : List Int} {r : List Int × Int} (hr : f34 p0 p1 p2 = some r) : RunsP Try.prog 34 [.int .i64 p0, .sl Y1 p1, .sl (.int .i64) p2] [.sl (.int .i64) r.1, .int .i64 r.2] := by
  refine runs_w Try.func34 Try.ntmps34 rfl (rs := [.tmp 6, .tmp 7]) rfl rfl fun w0 X hX => ?_
  refine awc_seq ?_
  refine awc_region ?_
  refine awl_v (av_assign rfl) ?_
  refine awl_v (av_assign rfl) ?_
  refine awl_nil (athen_norm (awc_seq (awc_seq ?_)))
  refine awc_region ?_
  refine awl_v (av_move rfl) ?_
  refine awl_v (av_move rfl) ?_
  refine awl_v (av_move rfl) ?_
  obtain ⟨x1, e2, hr⟩ := bnd_some hr
  refine awl_v (av_call (f57_runs e2) ent57 rfl rfl) ?_
  refine awl_v (av_assign rfl) ?_
  refine awl_nil (athen_norm (awc_seq ?_))
  refine awc_region ?_
  refine awl_v (av_move rfl) ?_
  refine awl_v (av_neq rfl rfl) ?_
  refine awl_nil (athen_norm ?_)
  refine awc_cond (b := !decide (x1 = 0)) rfl (fun hc3 => ?_) (fun hc3 => ?_)
  · have hr := if_t hc3 hr
    refine awc_seq ?_
    refine awc_region ?_
    refine awl_v (av_move rfl) ?_
    refine awl_v (av_assign rfl) ?_
    refine awl_v (av_assign rfl) ?_
    have hr := Option.some.inj hr
    subst hr
    exact awl_nil (athen_norm (awc_ret (athen_ret (ret_q (l' := [(6, .sl (.int .i64) ([] : List Int)), (7, .int .i64 x1)]) (wk_of hX [] 4 rfl rfl ⟨⟨_, rfl, cv2⟩, ⟨_, rfl, cv0⟩, trivial⟩ trivial) rfl ⟨rfl, rfl, trivial⟩))))
  · have hr := if_f hc3 hr
    refine awc_skip (athen_norm (awc_seq ?_))
    refine awc_region ?_
    refine awl_v (av_move rfl) ?_
    refine awl_v (av_move rfl) ?_
    obtain ⟨x4, e5, hr⟩ := bnd_some hr
    refine awl_v (av_call (f52_runs e5) ent52 rfl rfl) ?_
    refine awl_v (av_assign rfl) ?_
    refine awl_nil (athen_norm (awc_seq ?_))
    refine awc_region ?_
    refine awl_v (av_move rfl) ?_
    obtain ⟨h6, hr⟩ := chk_some hr
    refine awl_op (aop_make (t := (.int .i64)) und22 zt3 rfl rfl h6 rfl ?_)
    refine awl_v (av_assign rfl) ?_
    refine awl_nil (athen_norm (awc_seq (awc_seq ?_)))
    refine awc_region ?_
    refine awl_v (av_move rfl) ?_
    refine awl_v (av_len_sl (t := (.int .i64)) rfl rfl und22 rfl) ?_
    refine awl_v (av_move rfl) ?_
    refine awl_nil (athen_norm (awc_block ?_))
    obtain ⟨o12, e13, hr⟩ := bnd_some hr
    refine awc_len (t := 2) rfl (fun hl => ?_)
    refine awc_range (S := List Int) (R := Unit) (List.length p2 : Int) (f34_b0 p2 x4) (fun p => match p with | (i7, s9) => (⟨[(6, .nils), (7, .int .i64 0), (9, .sl (.slice (.int .i64)) x4), (10, .osl 0), (25, .sl (.int .i64) p2), (26, .int .i64 (List.length p2 : Int)), (27, .int .i64 i7)], [(0, .sl 3 (.int .i64) s9)], 1⟩ : AS)) (fun o e st => match o with | .inr _ => False | .inl s9 => e = .exit 0 ∧ Wk X st ⟨[(6, .nils), (7, .int .i64 0), (10, .osl 0)], [(0, .sl 3 (.int .i64) s9)], 1⟩) (len_ok hl) e13 (wk_of hX [0] 4 rfl rfl ⟨⟨_, rfl, cv0⟩, ⟨_, rfl, cv0⟩, ⟨_, rfl, cv0⟩, ⟨_, rfl, cv0⟩, ⟨_, rfl, cv0⟩, ⟨_, rfl, cv0⟩, ⟨_, rfl, cv0⟩, trivial⟩ ⟨cvo0, trivial⟩) ?_ ?_
    · intro e st hx
      rcases o12 with s9 | _
      · obtain ⟨rfl, hw⟩ := hx
        refine ablock_here (athen_norm ((awc_wk hw) (awc_seq ?_)))
        refine awc_region ?_
        refine awl_v (av_move rfl) ?_
        refine awl_v (av_assign rfl) ?_
        refine awl_v (av_assign rfl) ?_
        have hr := Option.some.inj hr
        subst hr
        exact awl_nil (athen_norm (awc_ret (ret_q (l' := [(6, .sl (.int .i64) s9), (7, .int .i64 0)]) (wk_of hX [] 4 rfl rfl ⟨⟨_, rfl, cv0⟩, ⟨_, rfl, cv0⟩, trivial⟩ trivial) rfl ⟨rfl, rfl, trivial⟩)))
      · exact hx.elim
    · rintro i7 s9 o ho
      refine awc_seq ?_
      refine awc_region ?_
      refine awl_v (av_lss rfl rfl) ?_
      refine awl_nil (athen_norm (awc_seq ?_))
      refine awc_cond (b := decide (i7 < (List.length p2 : Int))) rfl (fun hc14 => ?_) (fun hc14 => ?_)
      · obtain ⟨q, hr, rfl⟩ := rb_t hc14 ho
        refine awc_skip (athen_norm (awc_seq (awc_block (awc_seq ?_))))
        refine awc_region ?_
        obtain ⟨x15, e16, hr⟩ := bnd_some hr
        refine awl_v (av_ia_sl (t := (.int .i64)) (e := x15) und22 sz3 rfl rfl e16) ?_
        refine awl_v (av_load_rp ts3 rfl) ?_
        refine awl_v (av_assign rfl) ?_
        refine awl_nil (athen_norm ?_)
        refine awc_region ?_
        refine awl_v (av_move rfl) ?_
        refine awl_v (av_move rfl) ?_
        refine awl_v (av_move rfl) ?_
        obtain ⟨x17, e18, hr⟩ := bnd_some hr
        refine awl_v (av_ia_sl (t := (.slice (.int .i64))) (e := x17) und34 sz22 rfl rfl e18) ?_
        refine awl_v (av_load_rp ts22 rfl) ?_
        refine awl_wk (wk_frz [10, 31] 0 rfl rfl rfl) ?_
        obtain ⟨x19, e20, hr⟩ := bnd_some hr
        refine awl_op (aop_callO (σ := []) (as' := [.sl (.int .i64) s9, .sl (.int .i64) x17]) (f48_runs e20) ent48 rfl ⟨cv0, cv0, trivial⟩ rfl rfl rfl ?_)
        refine awl_v (av_assign rfl) ?_
        refine awl_nil (ablock_norm (athen_norm ?_))
        refine awc_region ?_
        refine awl_v (av_add rfl rfl) ?_
        refine awl_v (av_move rfl) ?_
        have hr := Option.some.inj hr
        subst hr
        exact awl_nil ((wk_of hX [1] 4 rfl rfl ⟨⟨_, rfl, cv0⟩, ⟨_, rfl, cv0⟩, ⟨_, rfl, cv0⟩, ⟨_, rfl, cv0⟩, ⟨_, rfl, cv0⟩, ⟨_, rfl, cv0⟩, ⟨_, rfl, cv0⟩, trivial⟩ ⟨cvo0, trivial⟩))
      · obtain rfl := rb_f hc14 ho
        exact awc_exit (athen_exit (⟨rfl, (wk_of hX [0] 4 rfl rfl ⟨⟨_, rfl, cv0⟩, ⟨_, rfl, cv0⟩, ⟨_, rfl, cv0⟩, trivial⟩ ⟨cvo0, trivial⟩)⟩))
theorem f35_runs {p0 : Int} {p1 : List (Int × Int × Int × Int × Str)} {p2 : List Int} {r : List Int × Int} (hr : f35 p0 p1 p2 = some r) : RunsP Try.prog 35 [.int .i64 p0, .sl Y1 p1, .sl (.int .i64) p2] [.sl (.int .i64) r.1, .int .i64 r.2] := by
  refine runs_w Try.func35 Try.ntmps35 rfl (rs := [.tmp 6, .tmp 7]) rfl rfl fun w0 X hX => ?_
  refine awc_seq ?_
  refine awc_region ?_
  refine awl_v (av_assign rfl) ?_
  refine awl_v (av_assign rfl) ?_
  refine awl_nil (athen_norm (awc_seq (awc_seq ?_)))
  refine awc_region ?_
  refine awl_v (av_move rfl) ?_
  refine awl_v (av_move rfl) ?_
  refine awl_v (av_move rfl) ?_
  obtain ⟨x1, e2, hr⟩ := bnd_some hr
  refine awl_v (av_call (f53_runs e2) ent53 rfl rfl) ?_
  refine awl_v (av_assign rfl) ?_
  refine awl_nil (athen_norm (awc_seq ?_))
  refine awc_region ?_
  refine awl_v (av_move rfl) ?_
  refine awl_v (av_neq rfl rfl) ?_
  refine awl_nil (athen_norm ?_)
  refine awc_cond (b := !decide (x1 = 0)) rfl (fun hc3 => ?_) (fun hc3 => ?_)
  · have hr := if_t hc3 hr
    refine awc_seq ?_
    refine awc_region ?_
    refine awl_v (av_move rfl) ?_
    refine awl_v (av_assign rfl) ?_
    refine awl_v (av_assign rfl) ?_
    have hr := Option.some.inj hr
    subst hr
    exact awl_nil (athen_norm (awc_ret (athen_ret (ret_q (l' := [(6, .sl (.int .i64) ([] : List Int)), (7, .int .i64 x1)]) (wk_of hX [] 4 rfl rfl ⟨⟨_, rfl, cv2⟩, ⟨_, rfl, cv0⟩, trivial⟩ trivial) rfl ⟨rfl, rfl, trivial⟩))))
  · have hr := if_f hc3 hr
    refine awc_skip (athen_norm (awc_seq ?_))
    refine awc_region ?_
    refine awl_v (av_move rfl) ?_
    refine awl_v (av_move rfl) ?_
    obtain ⟨x4, e5, hr⟩ := bnd_some hr
    refine awl_v (av_call (f67_runs e5) ent67 rfl rfl) ?_
    refine awl_v (av_move rfl) ?_
    obtain ⟨x6, e7, hr⟩ := bnd_some hr
    refine awl_v (av_call (f23_runs e7) ent23 rfl rfl) ?_
    refine awl_v (av_assign rfl) ?_
    refine awl_v (av_assign rfl) ?_
    refine awl_nil (athen_norm (awc_seq ?_))
    refine awc_region ?_
    refine awl_v (av_move rfl) ?_
    obtain ⟨h8, hr⟩ := chk_some hr
    refine awl_op (aop_make (t := (.int .i64)) und22 zt3 rfl rfl h8 rfl ?_)
    refine awl_v (av_assign rfl) ?_
    refine awl_nil (athen_norm (awc_seq (awc_seq ?_)))
    refine awc_region ?_
    refine awl_v (av_move rfl) ?_
    refine awl_v (av_len_sl (t := (.int .i64)) rfl rfl und22 rfl) ?_
    refine awl_v (av_move rfl) ?_
    refine awl_nil (athen_norm (awc_block ?_))
    obtain ⟨o14, e15, hr⟩ := bnd_some hr
    refine awc_len (t := 2) rfl (fun hl => ?_)
    refine awc_range (S := List Int) (R := Unit) (List.length p2 : Int) (f35_b0 p1 p2 x4 x6) (fun p => match p with | (i9, s11) => (⟨[(1, .sl Y1 p1), (6, .nils), (7, .int .i64 0), (9, .sl (.int .i64) x4), (10, .sl (.slice .bool) x6), (11, .osl 0), (30, .sl (.int .i64) p2), (31, .int .i64 (List.length p2 : Int)), (32, .int .i64 i9)], [(0, .sl 3 (.int .i64) s11)], 1⟩ : AS)) (fun o e st => match o with | .inr _ => False | .inl s11 => e = .exit 0 ∧ Wk X st ⟨[(6, .nils), (7, .int .i64 0), (11, .osl 0)], [(0, .sl 3 (.int .i64) s11)], 1⟩) (len_ok hl) e15 (wk_of hX [0] 4 rfl rfl ⟨⟨_, rfl, cv0⟩, ⟨_, rfl, cv0⟩, ⟨_, rfl, cv0⟩, ⟨_, rfl, cv0⟩, ⟨_, rfl, cv0⟩, ⟨_, rfl, cv0⟩, ⟨_, rfl, cv0⟩, ⟨_, rfl, cv0⟩, ⟨_, rfl, cv0⟩, trivial⟩ ⟨cvo0, trivial⟩) ?_ ?_
    · intro e st hx
      rcases o14 with s11 | _
      · obtain ⟨rfl, hw⟩ := hx
        refine ablock_here (athen_norm ((awc_wk hw) (awc_seq ?_)))
        refine awc_region ?_
        refine awl_v (av_move rfl) ?_
        refine awl_v (av_assign rfl) ?_
        refine awl_v (av_assign rfl) ?_
        have hr := Option.some.inj hr
        subst hr
        exact awl_nil (athen_norm (awc_ret (ret_q (l' := [(6, .sl (.int .i64) s11), (7, .int .i64 0)]) (wk_of hX [] 4 rfl rfl ⟨⟨_, rfl, cv0⟩, ⟨_, rfl, cv0⟩, trivial⟩ trivial) rfl ⟨rfl, rfl, trivial⟩)))
      · exact hx.elim
    · rintro i9 s11 o ho
      refine awc_seq ?_
      refine awc_region ?_
      refine awl_v (av_lss rfl rfl) ?_
      refine awl_nil (athen_norm (awc_seq ?_))
      refine awc_cond (b := decide (i9 < (List.length p2 : Int))) rfl (fun hc16 => ?_) (fun hc16 => ?_)
      · obtain ⟨q, hr, rfl⟩ := rb_t hc16 ho
        refine awc_skip (athen_norm (awc_seq (awc_block (awc_seq ?_))))
        refine awc_region ?_
        obtain ⟨x17, e18, hr⟩ := bnd_some hr
        refine awl_v (av_ia_sl (t := (.int .i64)) (e := x17) und22 sz3 rfl rfl e18) ?_
        refine awl_v (av_load_rp ts3 rfl) ?_
        refine awl_v (av_assign rfl) ?_
        refine awl_nil (athen_norm (awc_seq ?_))
        obtain ⟨x19, e20, hr⟩ := bnd_some hr
        obtain ⟨x21, e22, hr⟩ := bnd_some hr
        obtain ⟨x23, e24, hr⟩ := bnd_some hr
        refine awc_draw_tail2 20 [20, 20, 20, 20, 20, 20, 20, 20, 20, 20, 20, 20, 20, 20, 20, 20, 20, 20, 20, 20] mixed [1, 6, 7, 9, 10, 11, 30, 31, 32, 13] [(true, .osl 0), (true, .sl Y1 p1), (true, .int .i64 x17), (true, .rp [.int .i64 x19.1, .int .i64 x19.2.1, .int .i64 x19.2.2.1, .int .i64 x19.2.2.2.1, .str x19.2.2.2.2]), (true, .rp [.int .i64 x19.1, .int .i64 x19.2.1, .int .i64 x19.2.2.1, .int .i64 x19.2.2.2.1, .str x19.2.2.2.2]), (true, .int .i64 x19.1), (true, .osl 0), (true, .sl Y1 p1), (true, .int .i64 x17), (true, .rp [.int .i64 x19.1, .int .i64 x19.2.1, .int .i64 x19.2.2.1, .int .i64 x19.2.2.2.1, .str x19.2.2.2.2]), (true, .rp [.int .i64 x19.1, .int .i64 x19.2.1, .int .i64 x19.2.2.1, .int .i64 x19.2.2.2.1, .str x19.2.2.2.2]), (true, .int .i64 x19.1), (true, .ep 0 1 (Int.toNat x19.1) 0), (true, .int .i64 x21), (true, .sl (.int .i64) x4), (true, .int .i64 x17), (true, .rp [.int .i64 x23]), (true, .int .i64 x23), (true, .int .i64 (max x21 x23)), (true, .ep 0 1 (Int.toNat x19.1) 0)] [[], [], [], [1, 2], [3], [4], [], [], [], [7, 8], [9], [10], [6, 11], [12], [], [], [14, 15], [16], [13, 17], [0, 5]] [18, 19] rfl rfl rfl rfl rfl rfl rfl rfl ⟨?_, ?_, ?_, ?_, ?_, ?_, ?_, ?_, ?_, ?_, ?_, ?_, ?_, ?_, ?_, ?_, ?_, ?_, ?_, ?_, trivial⟩ (allT_of ⟨rfl, rfl, trivial⟩) ?_
        · exact ob_v rfl (fun hg => allT_of trivial) (fun hg => av_move rfl)
        · exact ob_v rfl (fun hg => allT_of trivial) (fun hg => av_move rfl)
        · exact ob_v rfl (fun hg => allT_of trivial) (fun hg => av_move rfl)
        · exact ob_v rfl (fun hg => allT_of ⟨rfl, rfl, trivial⟩) (fun hg => av_ia_sl (t := Y1) (e := x19) und30 sz50 rfl rfl e20)
        · exact ob_v rfl (fun hg => allT_of ⟨rfl, trivial⟩) (fun hg => av_fa_rp fa50_0 rfl rfl)
        · exact ob_v rfl (fun hg => allT_of ⟨rfl, trivial⟩) (fun hg => av_load_rp ts3 rfl)
        · exact ob_v rfl (fun hg => allT_of trivial) (fun hg => av_move rfl)
        · exact ob_v rfl (fun hg => allT_of trivial) (fun hg => av_move rfl)
        · exact ob_v rfl (fun hg => allT_of trivial) (fun hg => av_move rfl)
        · exact ob_v rfl (fun hg => allT_of ⟨rfl, rfl, trivial⟩) (fun hg => av_ia_sl (t := Y1) (e := x19) und30 sz50 rfl rfl e20)
        · exact ob_v rfl (fun hg => allT_of ⟨rfl, trivial⟩) (fun hg => av_fa_rp fa50_0 rfl rfl)
        · exact ob_v rfl (fun hg => allT_of ⟨rfl, trivial⟩) (fun hg => av_load_rp ts3 rfl)
        · exact ob_v rfl (fun hg => allT_of ⟨rfl, rfl, trivial⟩) (fun hg => av_ia_osl (t := (.int .i64)) und22 sz3 rfl rfl rfl e22)
        · exact ob_v rfl (fun hg => allT_of ⟨rfl, trivial⟩) (fun hg => av_load_ep ts3 rfl rfl rfl (ix_at e22) rfl)
        · exact ob_v rfl (fun hg => allT_of trivial) (fun hg => av_move rfl)
        · exact ob_v rfl (fun hg => allT_of trivial) (fun hg => av_move rfl)
        · exact ob_v rfl (fun hg => allT_of ⟨rfl, rfl, trivial⟩) (fun hg => av_ia_sl (t := (.int .i64)) (e := x23) und22 sz3 rfl rfl e24)
        · exact ob_v rfl (fun hg => allT_of ⟨rfl, trivial⟩) (fun hg => av_load_rp ts3 rfl)
        · exact ob_v rfl (fun hg => allT_of ⟨rfl, rfl, trivial⟩) (fun hg => av_max rfl rfl rfl)
        · exact ob_v rfl (fun hg => allT_of ⟨rfl, rfl, trivial⟩) (fun hg => av_ia_osl (t := (.int .i64)) und22 sz3 rfl rfl rfl e22)
        refine awl_op (aop_store_ep (e' := (max x21 x23)) sz3 rfl rfl rfl rfl (ix_at e22) rfl rfl rfl rfl rfl ?_)
        refine awl_nil (athen_norm (awc_seq ?_))
        refine awc_region ?_
        refine awl_v (av_move rfl) ?_
        refine awl_v (av_move rfl) ?_
        obtain ⟨x25, e26, hr⟩ := bnd_some hr
        refine awl_v (av_ia_sl (t := (.slice .bool)) (e := x25) und38 sz40 rfl rfl e26) ?_
        refine awl_v (av_load_rp ts40 rfl) ?_
        refine awl_v (av_len_sl (t := .bool) rfl rfl und40 rfl) ?_
        refine awl_v (av_move rfl) ?_
        refine awl_nil (athen_norm (awc_block ?_))
        obtain ⟨o32, e33, hr⟩ := bnd_some hr
        refine awc_len (t := 59) rfl (fun hl => ?_)
        refine awc_range (S := List Int) (R := Unit) (List.length x25 : Int) (f35_b1 p1 x4 x25) (fun p => match p with | (i27, s29) => (⟨[(1, .sl Y1 p1), (6, .nils), (7, .int .i64 0), (9, .sl (.int .i64) x4), (10, .sl (.slice .bool) x6), (11, .osl 0), (30, .sl (.int .i64) p2), (31, .int .i64 (List.length p2 : Int)), (32, .int .i64 i9), (59, .sl .bool x25), (60, .int .i64 (List.length x25 : Int)), (61, .int .i64 i27)], [(0, .sl 3 (.int .i64) s29)], 1⟩ : AS)) (fun o e st => match o with | .inr _ => False | .inl s29 => e = .exit 2 ∧ Wk X st ⟨[(1, .sl Y1 p1), (6, .nils), (7, .int .i64 0), (9, .sl (.int .i64) x4), (10, .sl (.slice .bool) x6), (11, .osl 0), (30, .sl (.int .i64) p2), (31, .int .i64 (List.length p2 : Int)), (32, .int .i64 i9)], [(0, .sl 3 (.int .i64) s29)], 1⟩) (len_ok hl) e33 (wk_of hX [0] 4 rfl rfl ⟨⟨_, rfl, cv0⟩, ⟨_, rfl, cv0⟩, ⟨_, rfl, cv0⟩, ⟨_, rfl, cv0⟩, ⟨_, rfl, cv0⟩, ⟨_, rfl, cv0⟩, ⟨_, rfl, cv0⟩, ⟨_, rfl, cv0⟩, ⟨_, rfl, cv0⟩, ⟨_, rfl, cv0⟩, ⟨_, rfl, cv0⟩, ⟨_, rfl, cv0⟩, trivial⟩ ⟨cvo0, trivial⟩) ?_ ?_
        · intro e st hx
          rcases o32 with s29 | _
          · obtain ⟨rfl, hw⟩ := hx
            refine ablock_here (ablock_norm (athen_norm ((awc_wk hw) ?_)))
            refine awc_region ?_
            refine awl_v (av_add rfl rfl) ?_
            refine awl_v (av_move rfl) ?_
            have hr := Option.some.inj hr
            subst hr
            exact awl_nil ((wk_of hX [0] 4 rfl rfl ⟨⟨_, rfl, cv0⟩, ⟨_, rfl, cv0⟩, ⟨_, rfl, cv0⟩, ⟨_, rfl, cv0⟩, ⟨_, rfl, cv0⟩, ⟨_, rfl, cv0⟩, ⟨_, rfl, cv0⟩, ⟨_, rfl, cv0⟩, ⟨_, rfl, cv0⟩, trivial⟩ ⟨cvo0, trivial⟩))
          · exact hx.elim
        · rintro i27 s29 o ho
          refine awc_seq ?_
          refine awc_region ?_
          refine awl_v (av_lss rfl rfl) ?_
          refine awl_nil (athen_norm (awc_seq ?_))
          refine awc_cond (b := decide (i27 < (List.length x25 : Int))) rfl (fun hc34 => ?_) (fun hc34 => ?_)
          · obtain ⟨q, hr, rfl⟩ := rb_t hc34 ho
            refine awc_skip (athen_norm ?_)
            obtain ⟨o36, e37, hr⟩ := bnd_some hr
            refine awc_join (S := List Int) (R := Unit) (fun s => match s with | s35 => (⟨[(1, .sl Y1 p1), (6, .nils), (7, .int .i64 0), (9, .sl (.int .i64) x4), (10, .sl (.slice .bool) x6), (11, .osl 0), (30, .sl (.int .i64) p2), (31, .int .i64 (List.length p2 : Int)), (32, .int .i64 i9), (59, .sl .bool x25), (60, .int .i64 (List.length x25 : Int)), (61, .int .i64 i27)], [(0, .sl 3 (.int .i64) s35)], 1⟩ : AS)) (fun _ _ _ => False) e37 (fun hr => ?_) ?_ ?_
            · refine awc_block (awc_seq ?_)
              refine awc_region ?_
              refine awl_v (av_move rfl) ?_
              obtain ⟨x38, e39, hr⟩ := bnd_some hr
              refine awl_v (av_ia_sl (t := .bool) (e := x38) und40 sz4 rfl rfl e39) ?_
              refine awl_v (av_load_rp ts4 rfl) ?_
              refine awl_v (av_assign rfl) ?_
              refine awl_v (av_assign rfl) ?_
              refine awl_nil (athen_norm (awc_seq ?_))
              refine awc_region ?_
              refine awl_v (av_move rfl) ?_
              refine awl_nil (athen_norm ?_)
              refine awc_cond (b := x38) rfl (fun hc40 => ?_) (fun hc40 => ?_)
              · have hr := if_t hc40 hr
                obtain ⟨x41, e42, hr⟩ := bnd_some hr
                obtain ⟨x43, e44, hr⟩ := bnd_some hr
                obtain ⟨x45, e46, hr⟩ := bnd_some hr
                refine awc_draw_tail2 20 [20, 20, 20, 20, 20, 20, 20, 20, 20, 20, 20, 20, 20, 20, 20, 20, 20, 20, 20, 20] mixed [1, 6, 7, 9, 10, 11, 30, 31, 32, 59, 60, 61, 14] [(true, .osl 0), (true, .sl Y1 p1), (true, .int .i64 i27), (true, .rp [.int .i64 x41.1, .int .i64 x41.2.1, .int .i64 x41.2.2.1, .int .i64 x41.2.2.2.1, .str x41.2.2.2.2]), (true, .rp [.int .i64 x41.1, .int .i64 x41.2.1, .int .i64 x41.2.2.1, .int .i64 x41.2.2.2.1, .str x41.2.2.2.2]), (true, .int .i64 x41.1), (true, .osl 0), (true, .sl Y1 p1), (true, .int .i64 i27), (true, .rp [.int .i64 x41.1, .int .i64 x41.2.1, .int .i64 x41.2.2.1, .int .i64 x41.2.2.2.1, .str x41.2.2.2.2]), (true, .rp [.int .i64 x41.1, .int .i64 x41.2.1, .int .i64 x41.2.2.1, .int .i64 x41.2.2.2.1, .str x41.2.2.2.2]), (true, .int .i64 x41.1), (true, .ep 0 1 (Int.toNat x41.1) 0), (true, .int .i64 x43), (true, .sl (.int .i64) x4), (true, .int .i64 i27), (true, .rp [.int .i64 x45]), (true, .int .i64 x45), (true, .int .i64 (max x43 x45)), (true, .ep 0 1 (Int.toNat x41.1) 0)] [[], [], [], [1, 2], [3], [4], [], [], [], [7, 8], [9], [10], [6, 11], [12], [], [], [14, 15], [16], [13, 17], [0, 5]] [18, 19] rfl rfl rfl rfl rfl rfl rfl rfl ⟨?_, ?_, ?_, ?_, ?_, ?_, ?_, ?_, ?_, ?_, ?_, ?_, ?_, ?_, ?_, ?_, ?_, ?_, ?_, ?_, trivial⟩ (allT_of ⟨rfl, rfl, trivial⟩) ?_
                · exact ob_v rfl (fun hg => allT_of trivial) (fun hg => av_move rfl)
                · exact ob_v rfl (fun hg => allT_of trivial) (fun hg => av_move rfl)
                · exact ob_v rfl (fun hg => allT_of trivial) (fun hg => av_move rfl)
                · exact ob_v rfl (fun hg => allT_of ⟨rfl, rfl, trivial⟩) (fun hg => av_ia_sl (t := Y1) (e := x41) und30 sz50 rfl rfl e42)
                · exact ob_v rfl (fun hg => allT_of ⟨rfl, trivial⟩) (fun hg => av_fa_rp fa50_0 rfl rfl)
                · exact ob_v rfl (fun hg => allT_of ⟨rfl, trivial⟩) (fun hg => av_load_rp ts3 rfl)
                · exact ob_v rfl (fun hg => allT_of trivial) (fun hg => av_move rfl)
                · exact ob_v rfl (fun hg => allT_of trivial) (fun hg => av_move rfl)
                · exact ob_v rfl (fun hg => allT_of trivial) (fun hg => av_move rfl)
                · exact ob_v rfl (fun hg => allT_of ⟨rfl, rfl, trivial⟩) (fun hg => av_ia_sl (t := Y1) (e := x41) und30 sz50 rfl rfl e42)
                · exact ob_v rfl (fun hg => allT_of ⟨rfl, trivial⟩) (fun hg => av_fa_rp fa50_0 rfl rfl)
                · exact ob_v rfl (fun hg => allT_of ⟨rfl, trivial⟩) (fun hg => av_load_rp ts3 rfl)
                · exact ob_v rfl (fun hg => allT_of ⟨rfl, rfl, trivial⟩) (fun hg => av_ia_osl (t := (.int .i64)) und22 sz3 rfl rfl rfl e44)
                · exact ob_v rfl (fun hg => allT_of ⟨rfl, trivial⟩) (fun hg => av_load_ep ts3 rfl rfl rfl (ix_at e44) rfl)
                · exact ob_v rfl (fun hg => allT_of trivial) (fun hg => av_move rfl)
                · exact ob_v rfl (fun hg => allT_of trivial) (fun hg => av_move rfl)
                · exact ob_v rfl (fun hg => allT_of ⟨rfl, rfl, trivial⟩) (fun hg => av_ia_sl (t := (.int .i64)) (e := x45) und22 sz3 rfl rfl e46)
                · exact ob_v rfl (fun hg => allT_of ⟨rfl, trivial⟩) (fun hg => av_load_rp ts3 rfl)
                · exact ob_v rfl (fun hg => allT_of ⟨rfl, rfl, trivial⟩) (fun hg => av_max rfl rfl rfl)
                · exact ob_v rfl (fun hg => allT_of ⟨rfl, rfl, trivial⟩) (fun hg => av_ia_osl (t := (.int .i64)) und22 sz3 rfl rfl rfl e44)
                refine awl_op (aop_store_ep (e' := (max x43 x45)) sz3 rfl rfl rfl rfl (ix_at e44) rfl rfl rfl rfl rfl ?_)
                have hr := Option.some.inj hr
                subst hr
                exact awl_nil (ablock_norm ((wk_of hX [0] 4 rfl rfl ⟨⟨_, rfl, cv0⟩, ⟨_, rfl, cv0⟩, ⟨_, rfl, cv0⟩, ⟨_, rfl, cv0⟩, ⟨_, rfl, cv0⟩, ⟨_, rfl, cv0⟩, ⟨_, rfl, cv0⟩, ⟨_, rfl, cv0⟩, ⟨_, rfl, cv0⟩, ⟨_, rfl, cv0⟩, ⟨_, rfl, cv0⟩, ⟨_, rfl, cv0⟩, trivial⟩ ⟨cvo0, trivial⟩)))
              · have hr := if_f hc40 hr
                have hr := Option.some.inj hr
                subst hr
                exact awc_skip (ablock_norm ((wk_of hX [0] 4 rfl rfl ⟨⟨_, rfl, cv0⟩, ⟨_, rfl, cv0⟩, ⟨_, rfl, cv0⟩, ⟨_, rfl, cv0⟩, ⟨_, rfl, cv0⟩, ⟨_, rfl, cv0⟩, ⟨_, rfl, cv0⟩, ⟨_, rfl, cv0⟩, ⟨_, rfl, cv0⟩, ⟨_, rfl, cv0⟩, ⟨_, rfl, cv0⟩, ⟨_, rfl, cv0⟩, trivial⟩ ⟨cvo0, trivial⟩)))
            · rintro s35 rfl
              refine awc_region ?_
              refine awl_v (av_add rfl rfl) ?_
              refine awl_v (av_move rfl) ?_
              have hr := Option.some.inj hr
              subst hr
              exact awl_nil ((wk_of hX [0] 4 rfl rfl ⟨⟨_, rfl, cv0⟩, ⟨_, rfl, cv0⟩, ⟨_, rfl, cv0⟩, ⟨_, rfl, cv0⟩, ⟨_, rfl, cv0⟩, ⟨_, rfl, cv0⟩, ⟨_, rfl, cv0⟩, ⟨_, rfl, cv0⟩, ⟨_, rfl, cv0⟩, ⟨_, rfl, cv0⟩, ⟨_, rfl, cv0⟩, ⟨_, rfl, cv0⟩, trivial⟩ ⟨cvo0, trivial⟩))
            · exact fun r h e st hne hx => hx.elim
          · obtain rfl := rb_f hc34 ho
            exact awc_exit (athen_exit (⟨rfl, (wk_of hX [0] 4 rfl rfl ⟨⟨_, rfl, cv0⟩, ⟨_, rfl, cv0⟩, ⟨_, rfl, cv0⟩, ⟨_, rfl, cv0⟩, ⟨_, rfl, cv0⟩, ⟨_, rfl, cv0⟩, ⟨_, rfl, cv0⟩, ⟨_, rfl, cv0⟩, ⟨_, rfl, cv0⟩, trivial⟩ ⟨cvo0, trivial⟩)⟩))
      · obtain rfl := rb_f hc16 ho
        exact awc_exit (athen_exit (⟨rfl, (wk_of hX [0] 4 rfl rfl ⟨⟨_, rfl, cv0⟩, ⟨_, rfl, cv0⟩, ⟨_, rfl, cv0⟩, trivial⟩ ⟨cvo0, trivial⟩)⟩))
theorem f36_runs {p0 : Int} {p1 : List (Int × Int × Int × Int × Str)} {p2 : List Int} {r : List Int × Int} (hr : f36 p0 p1 p2 = some r) : RunsP Try.prog 36 [.int .i64 p0, .sl Y1 p1, .sl (.int .i64) p2] [.sl (.int .i64) r.1, .int .i64 r.2] := by
  refine runs_w Try.func36 Try.ntmps36 rfl (rs := [.tmp 6, .tmp 7]) rfl rfl fun w0 X hX => ?_
  refine awc_seq ?_
  refine awc_region ?_
  refine awl_v (av_assign rfl) ?_
  refine awl_v (av_assign rfl) ?_
  refine awl_nil (athen_norm (awc_seq (awc_seq ?_)))
  refine awc_region ?_
  refine awl_v (av_move rfl) ?_
  refine awl_v (av_move rfl) ?_
  refine awl_v (av_move rfl) ?_
  obtain ⟨x1, e2, hr⟩ := bnd_some hr
  refine awl_v (av_call (f63_runs e2) ent63 rfl rfl) ?_
  refine awl_v (av_assign rfl) ?_
  refine awl_nil (athen_norm (awc_seq ?_))
  refine awc_region ?_
  refine awl_v (av_move rfl) ?_
  refine awl_v (av_neq rfl rfl) ?_
  refine awl_nil (athen_norm ?_)
  refine awc_cond (b := !decide (x1 = 0)) rfl (fun hc3 => ?_) (fun hc3 => ?_)
  · have hr := if_t hc3 hr
    refine awc_seq ?_
    refine awc_region ?_
    refine awl_v (av_move rfl) ?_
    refine awl_v (av_assign rfl) ?_
    refine awl_v (av_assign rfl) ?_
    have hr := Option.some.inj hr
    subst hr
    exact awl_nil (athen_norm (awc_ret (athen_ret (ret_q (l' := [(6, .sl (.int .i64) ([] : List Int)), (7, .int .i64 x1)]) (wk_of hX [] 4 rfl rfl ⟨⟨_, rfl, cv2⟩, ⟨_, rfl, cv0⟩, trivial⟩ trivial) rfl ⟨rfl, rfl, trivial⟩))))
  · have hr := if_f hc3 hr
    refine awc_skip (athen_norm (awc_seq ?_))
    refine awc_region ?_
    refine awl_v (av_move rfl) ?_
    refine awl_v (av_move rfl) ?_
    obtain ⟨x4, e5, hr⟩ := bnd_some hr
    refine awl_v (av_call (f52_runs e5) ent52 rfl rfl) ?_
    refine awl_v (av_assign rfl) ?_
    refine awl_nil (athen_norm (awc_seq ?_))
    refine awc_region ?_
    refine awl_v (av_move rfl) ?_
    obtain ⟨x6, e7, hr⟩ := bnd_some hr
    refine awl_op (aop_callO (σ := []) (as' := [.sl (.int .i64) p2]) (f68_runs e7) ent68 rfl ⟨cv0, trivial⟩ rfl rfl rfl ?_)
    refine awl_v (av_assign rfl) ?_
    refine awl_nil (athen_norm (awc_seq (awc_seq ?_)))
    refine awc_region ?_
    refine awl_v (av_assign rfl) ?_
    refine awl_nil (athen_norm (awc_block ?_))
    obtain ⟨s13, e15, hr⟩ := bnd_some hr
    refine awc_loop (S := Bool × List Int) (R := List Int) (fun p => match p with | (s8, s9) => (⟨[(1, .sl Y1 p1), (6, .nils), (7, .int .i64 0), (9, .sl (.slice (.int .i64)) x4), (10, .osl 0), (11, .bool s8)], [(0, .sl 3 (.int .i64) s9)], 1⟩ : AS)) (f36_b0 p1 x4) (fun r e st => match r with | s13 => e = .exit 0 ∧ Wk X st ⟨[(6, .nils), (7, .int .i64 0), (10, .osl 0)], [(0, .sl 3 (.int .i64) s13)], 1⟩) e15 (wk_of hX [0] 4 rfl rfl ⟨⟨_, rfl, cv0⟩, ⟨_, rfl, cv0⟩, ⟨_, rfl, cv0⟩, ⟨_, rfl, cv0⟩, ⟨_, rfl, cv0⟩, ⟨_, rfl, cv0⟩, trivial⟩ ⟨cvo0, trivial⟩) ?_ ?_
    · intro e st hx
      obtain ⟨rfl, hw⟩ := hx
      refine ablock_here (athen_norm ((awc_wk hw) (awc_seq ?_)))
      refine awc_region ?_
      refine awl_v (av_move rfl) ?_
      refine awl_v (av_assign rfl) ?_
      refine awl_v (av_assign rfl) ?_
      have hr := Option.some.inj hr
      subst hr
      exact awl_nil (athen_norm (awc_ret (ret_q (l' := [(6, .sl (.int .i64) s13), (7, .int .i64 0)]) (wk_of hX [] 4 rfl rfl ⟨⟨_, rfl, cv0⟩, ⟨_, rfl, cv0⟩, trivial⟩ trivial) rfl ⟨rfl, rfl, trivial⟩)))
    · rintro ⟨s8, s9⟩ o hr
      refine awc_seq (awc_seq ?_)
      refine awc_region ?_
      refine awl_v (av_move rfl) ?_
      refine awl_nil (athen_norm ?_)
      refine awc_cond (b := s8) rfl (fun hc16 => ?_) (fun hc16 => ?_)
      · have hr := if_t hc16 hr
        refine awc_skip (athen_norm (awc_block (awc_seq ?_)))
        refine awc_region ?_
        refine awl_v (av_assign rfl) ?_
        refine awl_nil (athen_norm (awc_seq ?_))
        refine awc_region ?_
        refine awl_v (av_move rfl) ?_
        refine awl_v (av_len_sl (t := Y1) rfl rfl und30 rfl) ?_
        refine awl_v (av_move rfl) ?_
        refine awl_nil (athen_norm (awc_block ?_))
        obtain ⟨o24, e25, hr⟩ := bnd_some hr
        refine awc_len (t := 1) rfl (fun hl => ?_)
        refine awc_range (S := Bool × List Int) (R := Unit) (List.length p1 : Int) (f36_b1 p1 x4) (fun p => match p with | (i17, s18, s20) => (⟨[(1, .sl Y1 p1), (6, .nils), (7, .int .i64 0), (9, .sl (.slice (.int .i64)) x4), (10, .osl 0), (11, .bool s18), (27, .sl Y1 p1), (28, .int .i64 (List.length p1 : Int)), (29, .int .i64 i17)], [(0, .sl 3 (.int .i64) s20)], 1⟩ : AS)) (fun o e st => match o with | .inr _ => False | .inl (s18, s20) => e = .exit 2 ∧ Wk X st ⟨[(1, .sl Y1 p1), (6, .nils), (7, .int .i64 0), (9, .sl (.slice (.int .i64)) x4), (10, .osl 0), (11, .bool s18)], [(0, .sl 3 (.int .i64) s20)], 1⟩) (len_ok hl) e25 (wk_of hX [0] 4 rfl rfl ⟨⟨_, rfl, cv0⟩, ⟨_, rfl, cv0⟩, ⟨_, rfl, cv0⟩, ⟨_, rfl, cv0⟩, ⟨_, rfl, cv0⟩, ⟨_, rfl, cv0⟩, ⟨_, rfl, cv0⟩, ⟨_, rfl, cv0⟩, ⟨_, rfl, cv0⟩, trivial⟩ ⟨cvo0, trivial⟩) ?_ ?_
        · intro e st hx
          rcases o24 with ⟨s18, s20⟩ | _
          · obtain ⟨rfl, hw⟩ := hx
            have hr := Option.some.inj hr
            subst hr
            exact ablock_here (ablock_norm ((Wk.trans hw (wk_of hX [0] 4 rfl rfl ⟨⟨_, rfl, cv0⟩, ⟨_, rfl, cv0⟩, ⟨_, rfl, cv0⟩, ⟨_, rfl, cv0⟩, ⟨_, rfl, cv0⟩, ⟨_, rfl, cv0⟩, trivial⟩ ⟨cvo0, trivial⟩))))
          · exact hx.elim
        · rintro i17 ⟨s18, s20⟩ o ho
          refine awc_seq ?_
          refine awc_region ?_
          refine awl_v (av_lss rfl rfl) ?_
          refine awl_nil (athen_norm (awc_seq ?_))
          refine awc_cond (b := decide (i17 < (List.length p1 : Int))) rfl (fun hc26 => ?_) (fun hc26 => ?_)
          · obtain ⟨q, hr, rfl⟩ := rb_t hc26 ho
            refine awc_skip (athen_norm ?_)
            obtain ⟨o29, e30, hr⟩ := bnd_some hr
            refine awc_join (S := Bool × List Int) (R := Unit) (fun s => match s with | (s27, s28) => (⟨[(1, .sl Y1 p1), (6, .nils), (7, .int .i64 0), (9, .sl (.slice (.int .i64)) x4), (10, .osl 0), (11, .bool s27), (27, .sl Y1 p1), (28, .int .i64 (List.length p1 : Int)), (29, .int .i64 i17)], [(0, .sl 3 (.int .i64) s28)], 1⟩ : AS)) (fun _ _ _ => False) e30 (fun hr => ?_) ?_ ?_
            · refine awc_block (awc_seq ?_)
              refine awc_region ?_
              refine awl_v (av_move rfl) ?_
              obtain ⟨x31, e32, hr⟩ := bnd_some hr
              refine awl_v (av_ia_sl (t := Y1) (e := x31) und30 sz50 rfl rfl e32) ?_
              refine awl_v (av_load_rpN ts50 rfl rfl rfl) ?_
              refine awl_op (aop_alloc zero50 rfl ?_)
              refine awl_v (av_assign rfl) ?_
              refine awl_op (aop_store sz50 rfl rfl rfl rfl rfl rfl rfl ?_)
              refine awl_nil (athen_norm (awc_seq ?_))
              obtain ⟨x33, e34, hr⟩ := bnd_some hr
              obtain ⟨x35, e36, hr⟩ := bnd_some hr
              obtain ⟨h37, hr⟩ := chk_some hr
              obtain ⟨h38, hr⟩ := chk_some hr
              refine awc_draw mixed [1, 6, 7, 9, 10, 11, 27, 28, 29, 13, 12] [(true, .sl (.slice (.int .i64)) x4), (true, .int .i64 i17), (true, .rp [.sl (.int .i64) x33]), (true, .sl (.int .i64) x33), (true, .osl 0), (true, .ptr 1 0), (true, .int .i64 x31.1), (true, .bool x35), (true, .bool x35), (x35, .sl (.slice (.int .i64)) x4), (x35, .int .i64 i17), (x35, .rp [.sl (.int .i64) ((ix x4 i17).getD default)]), (x35, .sl (.int .i64) ((ix x4 i17).getD default)), (x35, .osl 0), (x35, .bool ((f70 ((ix x4 i17).getD default) s20).getD default)), (x35, .bool (!((f70 ((ix x4 i17).getD default) s20).getD default))), (true, .bool (x35 && (!((f70 ((ix x4 i17).getD default) s20).getD default))))] [[], [], [0, 1], [2], [], [], [5], [3, 4, 6], [7], [8], [8], [9, 10, 8], [11, 8], [8], [12, 13, 8], [14, 8], [15, 8]] [16] rfl rfl rfl rfl rfl ⟨?_, ?_, ?_, ?_, ?_, ?_, ?_, ?_, ?_, ?_, ?_, ?_, ?_, ?_, ?_, ?_, ?_, trivial⟩ (allT_of ⟨rfl, trivial⟩) ?_
              · exact ob_v rfl (fun hg => allT_of trivial) (fun hg => av_move rfl)
              · exact ob_v rfl (fun hg => allT_of trivial) (fun hg => av_move rfl)
              · exact ob_v rfl (fun hg => allT_of ⟨rfl, rfl, trivial⟩) (fun hg => av_ia_sl (t := (.slice (.int .i64))) (e := x33) und34 sz22 rfl rfl e34)
              · exact ob_v rfl (fun hg => allT_of ⟨rfl, trivial⟩) (fun hg => av_load_rp ts22 rfl)
              · exact ob_v rfl (fun hg => allT_of trivial) (fun hg => av_move rfl)
              · exact ob_v rfl (fun hg => allT_of trivial) (fun hg => av_fa_ptr fa50_0 rfl rfl)
              · exact ob_v rfl (fun hg => allT_of ⟨rfl, trivial⟩) (fun hg => av_load_ptr ts3 rfl rfl rfl)
              · exact ob_v rfl (fun hg => allT_of ⟨rfl, rfl, rfl, trivial⟩) (fun hg => av_callB (as' := [.sl (.int .i64) x33, .osl 0, .int .i64 x31.1]) (f69_runs e36) ent69 rfl ⟨cv0, cv0, cv0, trivial⟩ rfl rfl)
              · exact ob_v rfl (fun hg => allT_of ⟨rfl, trivial⟩) (fun hg => av_move rfl)
              · exact ob_v ⟨rfl, rfl, rfl, _, rfl, rfl⟩ (fun hg => allT_of ⟨rfl, trivial⟩) (fun hg => av_move rfl)
              · exact ob_v ⟨rfl, rfl, rfl, _, rfl, rfl⟩ (fun hg => allT_of ⟨rfl, trivial⟩) (fun hg => av_move rfl)
              · exact ob_v ⟨rfl, rfl, rfl, _, rfl, rfl⟩ (fun hg => allT_of ⟨hg, hg, rfl, trivial⟩) (fun hg => av_ia_sl (t := (.slice (.int .i64))) (e := ((ix x4 i17).getD default)) und34 sz22 rfl rfl (get_g h37 hg))
              · exact ob_v ⟨rfl, rfl, rfl, _, rfl, rfl⟩ (fun hg => allT_of ⟨hg, rfl, trivial⟩) (fun hg => av_load_rp ts22 rfl)
              · exact ob_v ⟨rfl, rfl, rfl, _, rfl, rfl⟩ (fun hg => allT_of ⟨rfl, trivial⟩) (fun hg => av_move rfl)
              · exact ob_v ⟨rfl, rfl, rfl, _, rfl, rfl⟩ (fun hg => allT_of ⟨hg, hg, rfl, trivial⟩) (fun hg => av_callB (as' := [.sl (.int .i64) ((ix x4 i17).getD default), .osl 0]) (f70_runs (get_g h38 hg)) ent70 rfl ⟨cv0, cv0, trivial⟩ rfl rfl)
              · exact ob_v ⟨rfl, rfl, rfl, _, rfl, rfl⟩ (fun hg => allT_of ⟨hg, rfl, trivial⟩) (fun hg => av_not rfl)
              · exact ob_pick (b := true) (p := x35) (q := !((f70 ((ix x4 i17).getD default) s20).getD default)) rfl rfl rfl (fun hg => allT_of ⟨rfl, trivial⟩) rfl rfl rfl rfl rfl
              refine athen_norm ?_
              refine awc_cond (b := x35 && (!((f70 ((ix x4 i17).getD default) s20).getD default))) rfl (fun hc39 => ?_) (fun hc39 => ?_)
              · have hr := if_t hc39 hr
                obtain ⟨x40, e41, hr⟩ := bnd_some hr
                obtain ⟨x42, e43, hr⟩ := bnd_some hr
                refine awc_draw_tail2 13 [13, 13, 13, 13, 13, 13, 13, 13, 13, 13, 13, 13, 13] mixed [1, 6, 7, 9, 10, 11, 27, 28, 29, 13, 12] [(true, .osl 0), (true, .ptr 1 0), (true, .int .i64 x31.1), (true, .sl (.slice (.int .i64)) x4), (true, .int .i64 i17), (true, .rp [.sl (.int .i64) x33]), (true, .sl (.int .i64) x33), (true, .ptr 1 0), (true, .int .i64 x31.1), (true, .rp [.int .i64 x40]), (true, .int .i64 x40), (true, .int .i64 (w64 (x40 - 1))), (true, .ep 0 1 (Int.toNat x31.1) 0)] [[], [], [1], [], [], [3, 4], [5], [], [7], [6, 8], [9], [10], [0, 2]] [11, 12] rfl rfl rfl rfl rfl rfl rfl rfl ⟨?_, ?_, ?_, ?_, ?_, ?_, ?_, ?_, ?_, ?_, ?_, ?_, ?_, trivial⟩ (allT_of ⟨rfl, rfl, trivial⟩) ?_
                · exact ob_v rfl (fun hg => allT_of trivial) (fun hg => av_move rfl)
                · exact ob_v rfl (fun hg => allT_of trivial) (fun hg => av_fa_ptr fa50_0 rfl rfl)
                · exact ob_v rfl (fun hg => allT_of ⟨rfl, trivial⟩) (fun hg => av_load_ptr ts3 rfl rfl rfl)
                · exact ob_v rfl (fun hg => allT_of trivial) (fun hg => av_move rfl)
                · exact ob_v rfl (fun hg => allT_of trivial) (fun hg => av_move rfl)
                · exact ob_v rfl (fun hg => allT_of ⟨rfl, rfl, trivial⟩) (fun hg => av_ia_sl (t := (.slice (.int .i64))) (e := x33) und34 sz22 rfl rfl e34)
                · exact ob_v rfl (fun hg => allT_of ⟨rfl, trivial⟩) (fun hg => av_load_rp ts22 rfl)
                · exact ob_v rfl (fun hg => allT_of trivial) (fun hg => av_fa_ptr fa50_0 rfl rfl)
                · exact ob_v rfl (fun hg => allT_of ⟨rfl, trivial⟩) (fun hg => av_load_ptr ts3 rfl rfl rfl)
                · exact ob_v rfl (fun hg => allT_of ⟨rfl, rfl, trivial⟩) (fun hg => av_ia_sl (t := (.int .i64)) (e := x40) und22 sz3 rfl rfl e41)
                · exact ob_v rfl (fun hg => allT_of ⟨rfl, trivial⟩) (fun hg => av_load_rp ts3 rfl)
                · exact ob_v rfl (fun hg => allT_of ⟨rfl, trivial⟩) (fun hg => av_sub rfl rfl)
                · exact ob_v rfl (fun hg => allT_of ⟨rfl, rfl, trivial⟩) (fun hg => av_ia_osl (t := (.int .i64)) und22 sz3 rfl rfl rfl e43)
                refine awl_op (aop_store_ep (e' := (w64 (x40 - 1))) sz3 rfl rfl rfl rfl (ix_at e43) rfl rfl rfl rfl rfl ?_)
                refine awl_v (av_assign rfl) ?_
                have hr := Option.some.inj hr
                subst hr
                exact awl_nil (ablock_norm ((wk_of hX [0] 4 rfl rfl ⟨⟨_, rfl, cv0⟩, ⟨_, rfl, cv0⟩, ⟨_, rfl, cv0⟩, ⟨_, rfl, cv0⟩, ⟨_, rfl, cv0⟩, ⟨_, rfl, cv0⟩, ⟨_, rfl, cv0⟩, ⟨_, rfl, cv0⟩, ⟨_, rfl, cv0⟩, trivial⟩ ⟨cvo0, trivial⟩)))
              · have hr := if_f hc39 hr
                have hr := Option.some.inj hr
                subst hr
                exact awc_skip (ablock_norm ((wk_of hX [0] 4 rfl rfl ⟨⟨_, rfl, cv0⟩, ⟨_, rfl, cv0⟩, ⟨_, rfl, cv0⟩, ⟨_, rfl, cv0⟩, ⟨_, rfl, cv0⟩, ⟨_, rfl, cv0⟩, ⟨_, rfl, cv0⟩, ⟨_, rfl, cv0⟩, ⟨_, rfl, cv0⟩, trivial⟩ ⟨cvo0, trivial⟩)))
            · rintro ⟨s27, s28⟩ rfl
              refine awc_region ?_
              refine awl_v (av_add rfl rfl) ?_
              refine awl_v (av_move rfl) ?_
              have hr := Option.some.inj hr
              subst hr
              exact awl_nil ((wk_of hX [0] 4 rfl rfl ⟨⟨_, rfl, cv0⟩, ⟨_, rfl, cv0⟩, ⟨_, rfl, cv0⟩, ⟨_, rfl, cv0⟩, ⟨_, rfl, cv0⟩, ⟨_, rfl, cv0⟩, ⟨_, rfl, cv0⟩, ⟨_, rfl, cv0⟩, ⟨_, rfl, cv0⟩, trivial⟩ ⟨cvo0, trivial⟩))
            · exact fun r h e st hne hx => hx.elim
          · obtain rfl := rb_f hc26 ho
            exact awc_exit (athen_exit (⟨rfl, (wk_of hX [0] 4 rfl rfl ⟨⟨_, rfl, cv0⟩, ⟨_, rfl, cv0⟩, ⟨_, rfl, cv0⟩, ⟨_, rfl, cv0⟩, ⟨_, rfl, cv0⟩, ⟨_, rfl, cv0⟩, trivial⟩ ⟨cvo0, trivial⟩)⟩))
      · have hr := if_f hc16 hr
        have hr := Option.some.inj hr
        subst hr
        exact awc_exit (athen_exit (⟨rfl, (wk_of hX [0] 4 rfl rfl ⟨⟨_, rfl, cv0⟩, ⟨_, rfl, cv0⟩, ⟨_, rfl, cv0⟩, trivial⟩ ⟨cvo0, trivial⟩)⟩))
theorem f37_runs {p0 : Int} {p1 : List (Int × Int × Int × Int × Str)} {p2 : List Int} {r : List Int × Int} (hr : f37 p0 p1 p2 = some r) : RunsP Try.prog 37 [.int .i64 p0, .sl Y1 p1, .sl (.int .i64) p2] [.sl (.int .i64) r.1, .int .i64 r.2] := by
  refine runs_w Try.func37 Try.ntmps37 rfl (rs := [.tmp 6, .tmp 7]) rfl rfl fun w0 X hX => ?_
  refine awc_seq ?_
  refine awc_region ?_
  refine awl_v (av_assign rfl) ?_
  refine awl_v (av_assign rfl) ?_
  refine awl_nil (athen_norm (awc_seq (awc_seq ?_)))
  refine awc_region ?_
  refine awl_v (av_move rfl) ?_
  refine awl_v (av_move rfl) ?_
  refine awl_v (av_move rfl) ?_
  obtain ⟨x1, e2, hr⟩ := bnd_some hr
  refine awl_v (av_call (f65_runs e2) ent65 rfl rfl) ?_
  refine awl_v (av_assign rfl) ?_
  refine awl_nil (athen_norm (awc_seq ?_))
  refine awc_region ?_
  refine awl_v (av_move rfl) ?_
  refine awl_v (av_neq rfl rfl) ?_
  refine awl_nil (athen_norm ?_)
  refine awc_cond (b := !decide (x1 = 0)) rfl (fun hc3 => ?_) (fun hc3 => ?_)
  · have hr := if_t hc3 hr
    refine awc_seq ?_
    refine awc_region ?_
    refine awl_v (av_move rfl) ?_
    refine awl_v (av_assign rfl) ?_
    refine awl_v (av_assign rfl) ?_
    have hr := Option.some.inj hr
    subst hr
    exact awl_nil (athen_norm (awc_ret (athen_ret (ret_q (l' := [(6, .sl (.int .i64) ([] : List Int)), (7, .int .i64 x1)]) (wk_of hX [] 4 rfl rfl ⟨⟨_, rfl, cv2⟩, ⟨_, rfl, cv0⟩, trivial⟩ trivial) rfl ⟨rfl, rfl, trivial⟩))))
  · have hr := if_f hc3 hr
    refine awc_skip (athen_norm (awc_seq ?_))
    refine awc_region ?_
    refine awl_v (av_move rfl) ?_
    refine awl_v (av_move rfl) ?_
    obtain ⟨x4, e5, hr⟩ := bnd_some hr
    refine awl_v (av_call (f67_runs e5) ent67 rfl rfl) ?_
    refine awl_v (av_move rfl) ?_
    obtain ⟨x6, e7, hr⟩ := bnd_some hr
    refine awl_v (av_call (f23_runs e7) ent23 rfl rfl) ?_
    refine awl_v (av_assign rfl) ?_
    refine awl_v (av_assign rfl) ?_
    refine awl_nil (athen_norm (awc_seq ?_))
    refine awc_region ?_
    refine awl_v (av_move rfl) ?_
    obtain ⟨h8, hr⟩ := chk_some hr
    refine awl_op (aop_append_nil rfl rfl app22 rfl rfl h8 rfl ?_)
    refine awl_v (av_assign rfl) ?_
    refine awl_nil (athen_norm (awc_seq (awc_seq ?_)))
    refine awc_region ?_
    refine awl_v (av_move rfl) ?_
    refine awl_v (av_len_sl (t := Y1) rfl rfl und30 rfl) ?_
    refine awl_v (av_move rfl) ?_
    refine awl_nil (athen_norm (awc_block ?_))
    obtain ⟨o14, e15, hr⟩ := bnd_some hr
    refine awc_len (t := 1) rfl (fun hl => ?_)
    refine awc_range (S := List Int) (R := Unit) (List.length p1 : Int) (f37_b0 p1 p2 x4 x6) (fun p => match p with | (i9, s11) => (⟨[(1, .sl Y1 p1), (2, .sl (.int .i64) p2), (6, .nils), (7, .int .i64 0), (9, .sl (.int .i64) x4), (10, .sl (.slice .bool) x6), (11, .osl 0), (30, .sl Y1 p1), (31, .int .i64 (List.length p1 : Int)), (32, .int .i64 i9)], [(0, .sl 3 (.int .i64) s11)], 1⟩ : AS)) (fun o e st => match o with | .inr _ => False | .inl s11 => e = .exit 0 ∧ Wk X st ⟨[(6, .nils), (7, .int .i64 0), (11, .osl 0)], [(0, .sl 3 (.int .i64) s11)], 1⟩) (len_ok hl) e15 (wk_of hX [0] 4 rfl rfl ⟨⟨_, rfl, cv0⟩, ⟨_, rfl, cv0⟩, ⟨_, rfl, cv0⟩, ⟨_, rfl, cv0⟩, ⟨_, rfl, cv0⟩, ⟨_, rfl, cv0⟩, ⟨_, rfl, cv0⟩, ⟨_, rfl, cv0⟩, ⟨_, rfl, cv0⟩, ⟨_, rfl, cv0⟩, trivial⟩ ⟨cvo0, trivial⟩) ?_ ?_
    · intro e st hx
      rcases o14 with s11 | _
      · obtain ⟨rfl, hw⟩ := hx
        refine ablock_here (athen_norm ((awc_wk hw) (awc_seq ?_)))
        refine awc_region ?_
        refine awl_v (av_move rfl) ?_
        refine awl_v (av_assign rfl) ?_
        refine awl_v (av_assign rfl) ?_
        have hr := Option.some.inj hr
        subst hr
        exact awl_nil (athen_norm (awc_ret (ret_q (l' := [(6, .sl (.int .i64) s11), (7, .int .i64 0)]) (wk_of hX [] 4 rfl rfl ⟨⟨_, rfl, cv0⟩, ⟨_, rfl, cv0⟩, trivial⟩ trivial) rfl ⟨rfl, rfl, trivial⟩)))
      · exact hx.elim
    · rintro i9 s11 o ho
      refine awc_seq ?_
      refine awc_region ?_
      refine awl_v (av_lss rfl rfl) ?_
      refine awl_nil (athen_norm (awc_seq ?_))
      refine awc_cond (b := decide (i9 < (List.length p1 : Int))) rfl (fun hc16 => ?_) (fun hc16 => ?_)
      · obtain ⟨q, hr, rfl⟩ := rb_t hc16 ho
        refine awc_skip (athen_norm (awc_seq (awc_block (awc_seq ?_))))
        refine awc_region ?_
        refine awl_v (av_move rfl) ?_
        obtain ⟨x17, e18, hr⟩ := bnd_some hr
        refine awl_v (av_ia_sl (t := Y1) (e := x17) und30 sz50 rfl rfl e18) ?_
        refine awl_v (av_load_rpN ts50 rfl rfl rfl) ?_
        refine awl_op (aop_alloc zero50 rfl ?_)
        refine awl_v (av_assign rfl) ?_
        refine awl_op (aop_store sz50 rfl rfl rfl rfl rfl rfl rfl ?_)
        refine awl_nil (athen_norm (awc_seq ?_))
        refine awc_region ?_
        refine awl_v (av_move rfl) ?_
        refine awl_v (av_move rfl) ?_
        obtain ⟨x19, e20, hr⟩ := bnd_some hr
        refine awl_v (av_ia_sl (t := (.slice .bool)) (e := x19) und38 sz40 rfl rfl e20) ?_
        refine awl_v (av_load_rp ts40 rfl) ?_
        refine awl_v (av_len_sl (t := .bool) rfl rfl und40 rfl) ?_
        refine awl_v (av_move rfl) ?_
        refine awl_nil (athen_norm (awc_block ?_))
        obtain ⟨o26, e27, hr⟩ := bnd_some hr
        refine awc_len (t := 40) rfl (fun hl => ?_)
        refine awc_range (S := List Int) (R := Unit) (List.length x19 : Int) (f37_b1 p1 p2 x4 i9 x17 x19) (fun p => match p with | (i21, s23) => (⟨[(1, .sl Y1 p1), (2, .sl (.int .i64) p2), (6, .nils), (7, .int .i64 0), (9, .sl (.int .i64) x4), (10, .sl (.slice .bool) x6), (11, .osl 0), (12, .int .i64 i9), (13, .ptr 1 0), (30, .sl Y1 p1), (31, .int .i64 (List.length p1 : Int)), (32, .int .i64 i9), (40, .sl .bool x19), (41, .int .i64 (List.length x19 : Int)), (42, .int .i64 i21)], [(0, .sl 3 (.int .i64) s23), (1, .var 50 [.int .i64 x17.1, .int .i64 x17.2.1, .int .i64 x17.2.2.1, .int .i64 x17.2.2.2.1, .str x17.2.2.2.2])], 2⟩ : AS)) (fun o e st => match o with | .inr _ => False | .inl s23 => e = .exit 2 ∧ Wk X st ⟨[(1, .sl Y1 p1), (2, .sl (.int .i64) p2), (6, .nils), (7, .int .i64 0), (9, .sl (.int .i64) x4), (10, .sl (.slice .bool) x6), (11, .osl 0), (30, .sl Y1 p1), (31, .int .i64 (List.length p1 : Int)), (32, .int .i64 i9)], [(0, .sl 3 (.int .i64) s23)], 1⟩) (len_ok hl) e27 (wk_of hX [0, 1] 4 rfl rfl ⟨⟨_, rfl, cv0⟩, ⟨_, rfl, cv0⟩, ⟨_, rfl, cv0⟩, ⟨_, rfl, cv0⟩, ⟨_, rfl, cv0⟩, ⟨_, rfl, cv0⟩, ⟨_, rfl, cv0⟩, ⟨_, rfl, cv0⟩, ⟨_, rfl, cv0⟩, ⟨_, rfl, cv0⟩, ⟨_, rfl, cv0⟩, ⟨_, rfl, cv0⟩, ⟨_, rfl, cv0⟩, ⟨_, rfl, cv0⟩, ⟨_, rfl, cv0⟩, trivial⟩ ⟨cvo0, cvo0, trivial⟩) ?_ ?_
        · intro e st hx
          rcases o26 with s23 | _
          · obtain ⟨rfl, hw⟩ := hx
            refine ablock_here (ablock_norm (athen_norm ((awc_wk hw) ?_)))
            refine awc_region ?_
            refine awl_v (av_add rfl rfl) ?_
            refine awl_v (av_move rfl) ?_
            have hr := Option.some.inj hr
            subst hr
            exact awl_nil ((wk_of hX [0] 4 rfl rfl ⟨⟨_, rfl, cv0⟩, ⟨_, rfl, cv0⟩, ⟨_, rfl, cv0⟩, ⟨_, rfl, cv0⟩, ⟨_, rfl, cv0⟩, ⟨_, rfl, cv0⟩, ⟨_, rfl, cv0⟩, ⟨_, rfl, cv0⟩, ⟨_, rfl, cv0⟩, ⟨_, rfl, cv0⟩, trivial⟩ ⟨cvo0, trivial⟩))
          · exact hx.elim
        · rintro i21 s23 o ho
          refine awc_seq ?_
          refine awc_region ?_
          refine awl_v (av_lss rfl rfl) ?_
          refine awl_nil (athen_norm (awc_seq ?_))
          refine awc_cond (b := decide (i21 < (List.length x19 : Int))) rfl (fun hc28 => ?_) (fun hc28 => ?_)
          · obtain ⟨q, hr, rfl⟩ := rb_t hc28 ho
            refine awc_skip (athen_norm ?_)
            obtain ⟨o30, e31, hr⟩ := bnd_some hr
            refine awc_join (S := List Int) (R := Unit) (fun s => match s with | s29 => (⟨[(1, .sl Y1 p1), (2, .sl (.int .i64) p2), (6, .nils), (7, .int .i64 0), (9, .sl (.int .i64) x4), (10, .sl (.slice .bool) x6), (11, .osl 0), (12, .int .i64 i9), (13, .ptr 1 0), (30, .sl Y1 p1), (31, .int .i64 (List.length p1 : Int)), (32, .int .i64 i9), (40, .sl .bool x19), (41, .int .i64 (List.length x19 : Int)), (42, .int .i64 i21)], [(0, .sl 3 (.int .i64) s29), (1, .var 50 [.int .i64 x17.1, .int .i64 x17.2.1, .int .i64 x17.2.2.1, .int .i64 x17.2.2.2.1, .str x17.2.2.2.2])], 2⟩ : AS)) (fun _ _ _ => False) e31 (fun hr => ?_) ?_ ?_
            · refine awc_block (awc_seq ?_)
              refine awc_region ?_
              refine awl_v (av_move rfl) ?_
              obtain ⟨x32, e33, hr⟩ := bnd_some hr
              refine awl_v (av_ia_sl (t := .bool) (e := x32) und40 sz4 rfl rfl e33) ?_
              refine awl_v (av_load_rp ts4 rfl) ?_
              refine awl_v (av_assign rfl) ?_
              refine awl_v (av_assign rfl) ?_
              refine awl_nil (athen_norm (awc_seq ?_))
              obtain ⟨h34, hr⟩ := chk_some hr
              obtain ⟨h35, hr⟩ := chk_some hr
              obtain ⟨h36, hr⟩ := chk_some hr
              refine awc_draw mixed [1, 2, 6, 7, 9, 10, 11, 12, 13, 30, 31, 32, 40, 41, 42, 14, 15] [(true, .bool x32), (true, .bool x32), (x32, .sl (.int .i64) x4), (x32, .int .i64 i21), (x32, .rp [.int .i64 ((ix x4 i21).getD default)]), (x32, .int .i64 ((ix x4 i21).getD default)), (x32, .sl (.int .i64) p2), (x32, .sl Y1 p1), (x32, .int .i64 i21), (x32, .rp [.int .i64 ((((ix p1 i21).getD default)).1), .int .i64 (((((ix p1 i21).getD default)).2).1), .int .i64 ((((((ix p1 i21).getD default)).2).2).1), .int .i64 (((((((ix p1 i21).getD default)).2).2).2).1), .str (((((((ix p1 i21).getD default)).2).2).2).2)]), (x32, .rp [.int .i64 ((((ix p1 i21).getD default)).1), .int .i64 (((((ix p1 i21).getD default)).2).1), .int .i64 ((((((ix p1 i21).getD default)).2).2).1), .int .i64 (((((((ix p1 i21).getD default)).2).2).2).1), .str (((((((ix p1 i21).getD default)).2).2).2).2)]), (x32, .int .i64 ((((ix p1 i21).getD default)).1)), (x32, .rp [.int .i64 ((ix p2 ((((ix p1 i21).getD default)).1)).getD default)]), (x32, .int .i64 ((ix p2 ((((ix p1 i21).getD default)).1)).getD default)), (x32, .bool (decide (((ix p2 ((((ix p1 i21).getD default)).1)).getD default) < ((ix x4 i21).getD default)))), (true, .bool (x32 && (decide (((ix p2 ((((ix p1 i21).getD default)).1)).getD default) < ((ix x4 i21).getD default)))))] [[], [0], [1], [1], [2, 3, 1], [4, 1], [1], [1], [1], [7, 8, 1], [9, 1], [10, 1], [6, 11, 1], [12, 1], [5, 13, 1], [14, 1]] [15] rfl rfl rfl rfl rfl ⟨?_, ?_, ?_, ?_, ?_, ?_, ?_, ?_, ?_, ?_, ?_, ?_, ?_, ?_, ?_, ?_, trivial⟩ (allT_of ⟨rfl, trivial⟩) ?_
              · exact ob_v rfl (fun hg => allT_of trivial) (fun hg => av_move rfl)
              · exact ob_v rfl (fun hg => allT_of ⟨rfl, trivial⟩) (fun hg => av_move rfl)
              · exact ob_v ⟨rfl, rfl, rfl, _, rfl, rfl⟩ (fun hg => allT_of ⟨rfl, trivial⟩) (fun hg => av_move rfl)
              · exact ob_v ⟨rfl, rfl, rfl, _, rfl, rfl⟩ (fun hg => allT_of ⟨rfl, trivial⟩) (fun hg => av_move rfl)
              · exact ob_v ⟨rfl, rfl, rfl, _, rfl, rfl⟩ (fun hg => allT_of ⟨hg, hg, rfl, trivial⟩) (fun hg => av_ia_sl (t := (.int .i64)) (e := ((ix x4 i21).getD default)) und22 sz3 rfl rfl (get_g h34 hg))
              · exact ob_v ⟨rfl, rfl, rfl, _, rfl, rfl⟩ (fun hg => allT_of ⟨hg, rfl, trivial⟩) (fun hg => av_load_rp ts3 rfl)
              · exact ob_v ⟨rfl, rfl, rfl, _, rfl, rfl⟩ (fun hg => allT_of ⟨rfl, trivial⟩) (fun hg => av_move rfl)
              · exact ob_v ⟨rfl, rfl, rfl, _, rfl, rfl⟩ (fun hg => allT_of ⟨rfl, trivial⟩) (fun hg => av_move rfl)
              · exact ob_v ⟨rfl, rfl, rfl, _, rfl, rfl⟩ (fun hg => allT_of ⟨rfl, trivial⟩) (fun hg => av_move rfl)
              · exact ob_v ⟨rfl, rfl, rfl, _, rfl, rfl⟩ (fun hg => allT_of ⟨hg, hg, rfl, trivial⟩) (fun hg => av_ia_sl (t := Y1) (e := ((ix p1 i21).getD default)) und30 sz50 rfl rfl (get_g h35 hg))
              · exact ob_v ⟨rfl, rfl, rfl, _, rfl, rfl⟩ (fun hg => allT_of ⟨hg, rfl, trivial⟩) (fun hg => av_fa_rp fa50_0 rfl rfl)
              · exact ob_v ⟨rfl, rfl, rfl, _, rfl, rfl⟩ (fun hg => allT_of ⟨hg, rfl, trivial⟩) (fun hg => av_load_rp ts3 rfl)
              · exact ob_v ⟨rfl, rfl, rfl, _, rfl, rfl⟩ (fun hg => allT_of ⟨hg, hg, rfl, trivial⟩) (fun hg => av_ia_sl (t := (.int .i64)) (e := ((ix p2 ((((ix p1 i21).getD default)).1)).getD default)) und22 sz3 rfl rfl (get_g h36 hg))
              · exact ob_v ⟨rfl, rfl, rfl, _, rfl, rfl⟩ (fun hg => allT_of ⟨hg, rfl, trivial⟩) (fun hg => av_load_rp ts3 rfl)
              · exact ob_v ⟨rfl, rfl, rfl, _, rfl, rfl⟩ (fun hg => allT_of ⟨hg, hg, rfl, trivial⟩) (fun hg => av_gtr rfl rfl)
              · exact ob_pick (b := true) (p := x32) (q := decide (((ix p2 ((((ix p1 i21).getD default)).1)).getD default) < ((ix x4 i21).getD default))) rfl rfl rfl (fun hg => allT_of ⟨rfl, trivial⟩) rfl rfl rfl rfl rfl
              refine athen_norm ?_
              refine awc_cond (b := x32 && (decide (((ix p2 ((((ix p1 i21).getD default)).1)).getD default) < ((ix x4 i21).getD default)))) rfl (fun hc37 => ?_) (fun hc37 => ?_)
              · have hr := if_t hc37 hr
                obtain ⟨x38, e39, hr⟩ := bnd_some hr
                obtain ⟨x40, e41, hr⟩ := bnd_some hr
                refine awc_draw_tail2 15 [15, 15, 15, 15, 15, 15, 15, 15, 15, 15, 15, 15, 15, 15, 15] mixed [1, 2, 6, 7, 9, 10, 11, 12, 13, 30, 31, 32, 40, 41, 42] [(true, .osl 0), (true, .ptr 1 0), (true, .int .i64 x17.1), (true, .osl 0), (true, .ptr 1 0), (true, .int .i64 x17.1), (true, .ep 0 1 (Int.toNat x17.1) 0), (true, .int .i64 x38), (true, .sl (.int .i64) x4), (true, .int .i64 i9), (true, .rp [.int .i64 x40]), (true, .int .i64 x40), (true, .int .i64 (w64 (x40 - 1))), (true, .int .i64 (min x38 (w64 (x40 - 1)))), (true, .ep 0 1 (Int.toNat x17.1) 0)] [[], [], [1], [], [], [4], [3, 5], [6], [], [], [8, 9], [10], [11], [7, 12], [0, 2]] [13, 14] rfl rfl rfl rfl rfl rfl rfl rfl ⟨?_, ?_, ?_, ?_, ?_, ?_, ?_, ?_, ?_, ?_, ?_, ?_, ?_, ?_, ?_, trivial⟩ (allT_of ⟨rfl, rfl, trivial⟩) ?_
                · exact ob_v rfl (fun hg => allT_of trivial) (fun hg => av_move rfl)
                · exact ob_v rfl (fun hg => allT_of trivial) (fun hg => av_fa_ptr fa50_0 rfl rfl)
                · exact ob_v rfl (fun hg => allT_of ⟨rfl, trivial⟩) (fun hg => av_load_ptr ts3 rfl rfl rfl)
                · exact ob_v rfl (fun hg => allT_of trivial) (fun hg => av_move rfl)
                · exact ob_v rfl (fun hg => allT_of trivial) (fun hg => av_fa_ptr fa50_0 rfl rfl)
                · exact ob_v rfl (fun hg => allT_of ⟨rfl, trivial⟩) (fun hg => av_load_ptr ts3 rfl rfl rfl)
                · exact ob_v rfl (fun hg => allT_of ⟨rfl, rfl, trivial⟩) (fun hg => av_ia_osl (t := (.int .i64)) und22 sz3 rfl rfl rfl e39)
                · exact ob_v rfl (fun hg => allT_of ⟨rfl, trivial⟩) (fun hg => av_load_ep ts3 rfl rfl rfl (ix_at e39) rfl)
                · exact ob_v rfl (fun hg => allT_of trivial) (fun hg => av_move rfl)
                · exact ob_v rfl (fun hg => allT_of trivial) (fun hg => av_move rfl)
                · exact ob_v rfl (fun hg => allT_of ⟨rfl, rfl, trivial⟩) (fun hg => av_ia_sl (t := (.int .i64)) (e := x40) und22 sz3 rfl rfl e41)
                · exact ob_v rfl (fun hg => allT_of ⟨rfl, trivial⟩) (fun hg => av_load_rp ts3 rfl)
                · exact ob_v rfl (fun hg => allT_of ⟨rfl, trivial⟩) (fun hg => av_sub rfl rfl)
                · exact ob_v rfl (fun hg => allT_of ⟨rfl, rfl, trivial⟩) (fun hg => av_min rfl rfl rfl)
                · exact ob_v rfl (fun hg => allT_of ⟨rfl, rfl, trivial⟩) (fun hg => av_ia_osl (t := (.int .i64)) und22 sz3 rfl rfl rfl e39)
                refine awl_op (aop_store_ep (e' := (min x38 (w64 (x40 - 1)))) sz3 rfl rfl rfl rfl (ix_at e39) rfl rfl rfl rfl rfl ?_)
                have hr := Option.some.inj hr
                subst hr
                exact awl_nil (ablock_norm ((wk_of hX [0, 1] 4 rfl rfl ⟨⟨_, rfl, cv0⟩, ⟨_, rfl, cv0⟩, ⟨_, rfl, cv0⟩, ⟨_, rfl, cv0⟩, ⟨_, rfl, cv0⟩, ⟨_, rfl, cv0⟩, ⟨_, rfl, cv0⟩, ⟨_, rfl, cv0⟩, ⟨_, rfl, cv0⟩, ⟨_, rfl, cv0⟩, ⟨_, rfl, cv0⟩, ⟨_, rfl, cv0⟩, ⟨_, rfl, cv0⟩, ⟨_, rfl, cv0⟩, ⟨_, rfl, cv0⟩, trivial⟩ ⟨cvo0, cvo0, trivial⟩)))
              · have hr := if_f hc37 hr
                have hr := Option.some.inj hr
                subst hr
                exact awc_skip (ablock_norm ((wk_of hX [0, 1] 4 rfl rfl ⟨⟨_, rfl, cv0⟩, ⟨_, rfl, cv0⟩, ⟨_, rfl, cv0⟩, ⟨_, rfl, cv0⟩, ⟨_, rfl, cv0⟩, ⟨_, rfl, cv0⟩, ⟨_, rfl, cv0⟩, ⟨_, rfl, cv0⟩, ⟨_, rfl, cv0⟩, ⟨_, rfl, cv0⟩, ⟨_, rfl, cv0⟩, ⟨_, rfl, cv0⟩, ⟨_, rfl, cv0⟩, ⟨_, rfl, cv0⟩, ⟨_, rfl, cv0⟩, trivial⟩ ⟨cvo0, cvo0, trivial⟩)))
            · rintro s29 rfl
              refine awc_region ?_
              refine awl_v (av_add rfl rfl) ?_
              refine awl_v (av_move rfl) ?_
              have hr := Option.some.inj hr
              subst hr
              exact awl_nil ((wk_of hX [0, 1] 4 rfl rfl ⟨⟨_, rfl, cv0⟩, ⟨_, rfl, cv0⟩, ⟨_, rfl, cv0⟩, ⟨_, rfl, cv0⟩, ⟨_, rfl, cv0⟩, ⟨_, rfl, cv0⟩, ⟨_, rfl, cv0⟩, ⟨_, rfl, cv0⟩, ⟨_, rfl, cv0⟩, ⟨_, rfl, cv0⟩, ⟨_, rfl, cv0⟩, ⟨_, rfl, cv0⟩, ⟨_, rfl, cv0⟩, ⟨_, rfl, cv0⟩, ⟨_, rfl, cv0⟩, trivial⟩ ⟨cvo0, cvo0, trivial⟩))
            · exact fun r h e st hne hx => hx.elim
          · obtain rfl := rb_f hc28 ho
            exact awc_exit (athen_exit (⟨rfl, (wk_of hX [0] 4 rfl rfl ⟨⟨_, rfl, cv0⟩, ⟨_, rfl, cv0⟩, ⟨_, rfl, cv0⟩, ⟨_, rfl, cv0⟩, ⟨_, rfl, cv0⟩, ⟨_, rfl, cv0⟩, ⟨_, rfl, cv0⟩, ⟨_, rfl, cv0⟩, ⟨_, rfl, cv0⟩, ⟨_, rfl, cv0⟩, trivial⟩ ⟨cvo0, trivial⟩)⟩))
      · obtain rfl := rb_f hc16 ho
        exact awc_exit (athen_exit (⟨rfl, (wk_of hX [0] 4 rfl rfl ⟨⟨_, rfl, cv0⟩, ⟨_, rfl, cv0⟩, ⟨_, rfl, cv0⟩, trivial⟩ ⟨cvo0, trivial⟩)⟩))
theorem f72_runs {p0 : Int} {p1 : Int × Int × Int × Int × Str} {r : Bool} (hr : f72 p0 p1 = some r) : RunsP Try.prog 72 [.int .i64 p0, .rp [.int .i64 p1.1, .int .i64 p1.2.1, .int .i64 p1.2.2.1, .int .i64 p1.2.2.2.1, .str p1.2.2.2.2]] [.bool r] := by
  refine runs_w Try.func72 Try.ntmps72 rfl (rs := [.tmp 3]) rfl rfl fun w0 X hX => ?_
  refine awc_seq ?_
  refine awc_region ?_
  refine awl_v (av_assign rfl) ?_
  refine awl_nil (athen_norm (awc_seq ?_))
  refine awc_region ?_
  refine awl_v (av_move rfl) ?_
  refine awl_v (av_fa_rp fa50_2 rfl rfl) ?_
  refine awl_v (av_load_rp ts3 rfl) ?_
  refine awl_v (av_eql rfl rfl) ?_
  refine awl_v (av_assign rfl) ?_
  have hr := Option.some.inj hr
  subst hr
  exact awl_nil (athen_norm (awc_ret (ret_q (l' := [(3, .bool (decide (p0 = p1.2.2.1)))]) (wk_of hX [] 4 rfl rfl ⟨⟨_, rfl, cv0⟩, trivial⟩ trivial) rfl ⟨rfl, trivial⟩)))
theorem f71_runs {p0_0 : List Int} {q1 : Int → Option Bool} {r : List Int} {g1 : FuncId} {c1s : List AV} (h_q1 : ∀ (y1 : Int) (r : Bool), q1 y1 = some r → RunsP Try.prog g1 ([.int .i64 y1] ++ c1s) [.bool r]) (k_q1 : FnIn Try.prog g1 c1s) (hr : f71 p0_0 q1 = some r) : Runs Try.prog 71 [.osl 0, .clo (.fn g1 [] c1s)] [.sl 3 (.int .i64) p0_0] (fun q Hq => q = [.osl 1] ∧ Hq = [.dead, .sl 3 (.int .i64) r]) := by
  refine runs_w Try.func71 Try.ntmps71 rfl (rs := [.tmp 4]) rfl rfl fun w0 X hX => ?_
  refine awc_seq ?_
  refine awc_region ?_
  refine awl_v (av_assign rfl) ?_
  refine awl_nil (athen_norm (awc_seq ?_))
  refine awc_region ?_
  refine awl_v (av_move rfl) ?_
  refine awl_v (av_move rfl) ?_
  obtain ⟨x2, e3, hr⟩ := bnd_some hr
  refine awl_v (av_callB (as' := [.osl 0, .clo (.fn g1 [] c1s)]) (f86_runs (g1 := g1) (c1s := c1s) h_q1 k_q1 e3) ent86 rfl ⟨cv0, cv0, trivial⟩ rfl rfl) ?_
  refine awl_v (av_assign rfl) ?_
  refine awl_nil (athen_norm (awc_seq (awc_seq ?_)))
  refine awc_region ?_
  refine awl_v (av_move rfl) ?_
  refine awl_v (av_eql rfl rfl) ?_
  refine awl_nil (athen_norm ?_)
  refine awc_cond (b := decide (x2 = (-1))) rfl (fun hc4 => ?_) (fun hc4 => ?_)
  · have hr := if_t hc4 hr
    refine awc_seq ?_
    refine awc_region ?_
    refine awl_v (av_move rfl) ?_
    refine awl_v (av_assign rfl) ?_
    have hr := Option.some.inj hr
    subst hr
    exact awl_nil (athen_norm (awc_ret (athen_ret (ret_o (l' := [(4, .osl 1)]) (Hs := [(0, .dead), (1, .sl 3 (.int .i64) p0_0)]) (n := 2) (Wk.trans (wk_mv (t := 4) rfl rfl) (wk_of hX [0, 1] 4 rfl rfl ⟨⟨_, rfl, cv0⟩, trivial⟩ ⟨cvo0, cvo0, trivial⟩)) rfl rfl rfl ⟨rfl, trivial⟩))))
  · have hr := if_f hc4 hr
    refine awc_skip (athen_norm (awc_seq (awc_seq ?_)))
    refine awc_region ?_
    refine awl_v (av_move rfl) ?_
    refine awl_v (av_add rfl rfl) ?_
    refine awl_v (av_assign rfl) ?_
    refine awl_nil (athen_norm (awc_block ?_))
    obtain ⟨o14, e15, hr⟩ := bnd_some hr
    refine awc_loop (S := Int × Int × List Int) (R := Int × List Int) (fun p => match p with | (s5, s6, s7) => (⟨[(0, .osl 0), (1, .clo (.fn g1 [] c1s)), (4, .nils), (5, .int .i64 s5), (6, .int .i64 s6)], [(0, .sl 3 (.int .i64) s7)], 1⟩ : AS)) (f71_b0 q1) (fun r e st => match r with | (s11, s13) => e = .exit 0 ∧ Wk X st ⟨[(0, .osl 0), (4, .nils), (5, .int .i64 s11)], [(0, .sl 3 (.int .i64) s13)], 1⟩) e15 (wk_of hX [0] 4 rfl rfl ⟨⟨_, rfl, cv0⟩, ⟨_, rfl, cv0⟩, ⟨_, rfl, cv0⟩, ⟨_, rfl, cv0⟩, ⟨_, rfl, cv0⟩, trivial⟩ ⟨cvo0, trivial⟩) ?_ ?_
    · intro e st hx
      obtain ⟨s11, s13⟩ := o14
      obtain ⟨rfl, hw⟩ := hx
      refine ablock_here (athen_norm ((awc_wk hw) (awc_seq ?_)))
      refine awc_region ?_
      refine awl_v (av_move rfl) ?_
      refine awl_v (av_move rfl) ?_
      obtain ⟨h16, hr⟩ := chk_some hr
      refine awl_clear (t := (.int .i64)) rfl rfl und22 sz3 zero3 rfl rfl rfl rfl h16 (hk := ?_)
      refine awl_nil (athen_norm (awc_seq ?_))
      refine awc_region ?_
      refine awl_v (av_move rfl) ?_
      refine awl_v (av_move rfl) ?_
      obtain ⟨h17, hr⟩ := chk_some hr
      refine awl_op (aop_slice_osl (t := (.int .i64)) (h := s11) und22 sz3 rfl rfl (by exact ⟨_, rfl⟩) h17 rfl ?_)
      refine awl_v (av_assign rfl) ?_
      have hr := Option.some.inj hr
      subst hr
      exact awl_nil (athen_norm (awc_ret (ret_o (l' := [(4, .osl 1)]) (Hs := [(0, .dead), (1, .sl 3 (.int .i64) ((s13.take (Int.toNat s11) ++ List.replicate (List.length s13 - Int.toNat s11) 0).take (Int.toNat s11)))]) (n := 2) (wk_of hX [0, 1] 4 rfl rfl ⟨⟨_, rfl, cv0⟩, trivial⟩ ⟨cvo0, cvo0, trivial⟩) rfl rfl rfl ⟨rfl, trivial⟩)))
    · rintro ⟨s5, s6, s7⟩ o hr
      refine awc_seq (awc_seq ?_)
      refine awc_region ?_
      refine awl_v (av_move rfl) ?_
      refine awl_v (av_move rfl) ?_
      refine awl_v (av_len_osl (t := (.int .i64)) rfl rfl und22 rfl rfl) ?_
      refine awl_v (av_lss rfl rfl) ?_
      refine awl_nil (athen_norm ?_)
      refine awc_cond (b := decide (s6 < (List.length s7 : Int))) rfl (fun hc18 => ?_) (fun hc18 => ?_)
      · have hr := if_t hc18 hr
        refine awc_skip (athen_norm ?_)
        obtain ⟨o21, e22, hr⟩ := bnd_some hr
        refine awc_join (S := Int × List Int) (R := Unit) (fun s => match s with | (s19, s20) => (⟨[(0, .osl 0), (1, .clo (.fn g1 [] c1s)), (4, .nils), (5, .int .i64 s19), (6, .int .i64 s6)], [(0, .sl 3 (.int .i64) s20)], 1⟩ : AS)) (fun _ _ _ => False) e22 (fun hr => ?_) ?_ ?_
        · refine awc_block (awc_seq ?_)
          refine awc_region ?_
          refine awl_v (av_move rfl) ?_
          refine awl_v (av_move rfl) ?_
          obtain ⟨x23, e24, hr⟩ := bnd_some hr
          refine awl_v (av_ia_osl (t := (.int .i64)) und22 sz3 rfl rfl rfl e24) ?_
          refine awl_v (av_load_ep ts3 rfl rfl rfl (ix_at e24) rfl) ?_
          refine awl_v (av_assign rfl) ?_
          refine awl_nil (athen_norm (awc_seq ?_))
          refine awc_region ?_
          refine awl_v (av_move rfl) ?_
          refine awl_v (av_move rfl) ?_
          obtain ⟨x25, e26, hr⟩ := bnd_some hr
          refine awl_v (av_callq rfl (h_q1 x23 x25 e26) k_q1 rfl rfl rfl) ?_
          refine awl_v (av_not rfl) ?_
          refine awl_nil (athen_norm ?_)
          refine awc_cond (b := !x25) rfl (fun hc27 => ?_) (fun hc27 => ?_)
          · have hr := if_t hc27 hr
            refine awc_seq ?_
            refine awc_region ?_
            refine awl_v (av_move rfl) ?_
            refine awl_v (av_move rfl) ?_
            refine awl_v (av_move rfl) ?_
            obtain ⟨x28, e29, hr⟩ := bnd_some hr
            refine awl_v (av_ia_osl (t := (.int .i64)) und22 sz3 rfl rfl rfl e29) ?_
            refine awl_op (aop_store_ep (e' := x23) sz3 rfl rfl rfl rfl (ix_at e29) rfl rfl rfl rfl rfl ?_)
            refine awl_nil (athen_norm ?_)
            refine awc_region ?_
            refine awl_v (av_move rfl) ?_
            refine awl_v (av_add rfl rfl) ?_
            refine awl_v (av_assign rfl) ?_
            have hr := Option.some.inj hr
            subst hr
            exact awl_nil (ablock_norm ((wk_of hX [0] 4 rfl rfl ⟨⟨_, rfl, cv0⟩, ⟨_, rfl, cv0⟩, ⟨_, rfl, cv0⟩, ⟨_, rfl, cv0⟩, ⟨_, rfl, cv0⟩, trivial⟩ ⟨cvo0, trivial⟩)))
          · have hr := if_f hc27 hr
            have hr := Option.some.inj hr
            subst hr
            exact awc_skip (ablock_norm ((wk_of hX [0] 4 rfl rfl ⟨⟨_, rfl, cv0⟩, ⟨_, rfl, cv0⟩, ⟨_, rfl, cv0⟩, ⟨_, rfl, cv0⟩, ⟨_, rfl, cv0⟩, trivial⟩ ⟨cvo0, trivial⟩)))
        · rintro ⟨s19, s20⟩ rfl
          refine awc_region ?_
          refine awl_v (av_move rfl) ?_
          refine awl_v (av_add rfl rfl) ?_
          refine awl_v (av_assign rfl) ?_
          have hr := Option.some.inj hr
          subst hr
          exact awl_nil ((wk_of hX [0] 4 rfl rfl ⟨⟨_, rfl, cv0⟩, ⟨_, rfl, cv0⟩, ⟨_, rfl, cv0⟩, ⟨_, rfl, cv0⟩, ⟨_, rfl, cv0⟩, trivial⟩ ⟨cvo0, trivial⟩))
        · exact fun r h e st hne hx => hx.elim
      · have hr := if_f hc18 hr
        have hr := Option.some.inj hr
        subst hr
        exact awc_exit (athen_exit (⟨rfl, (wk_of hX [0] 4 rfl rfl ⟨⟨_, rfl, cv0⟩, ⟨_, rfl, cv0⟩, ⟨_, rfl, cv0⟩, trivial⟩ ⟨cvo0, trivial⟩)⟩))
theorem f38_runs {p0 : Int} {p1 : List (Int × Int × Int × Int × Str)} {p2 : List Int} {r : List Int × Int} (hr : f38 p0 p1 p2 = some r) : RunsP Try.prog 38 [.int .i64 p0, .sl Y1 p1, .sl (.int .i64) p2] [.sl (.int .i64) r.1, .int .i64 r.2] := by
  refine runs_w Try.func38 Try.ntmps38 rfl (rs := [.tmp 6, .tmp 7]) rfl rfl fun w0 X hX => ?_
  refine awc_seq ?_
  refine awc_region ?_
  refine awl_v (av_assign rfl) ?_
  refine awl_v (av_assign rfl) ?_
  refine awl_nil (athen_norm (awc_seq (awc_seq ?_)))
  refine awc_region ?_
  refine awl_v (av_move rfl) ?_
  refine awl_v (av_move rfl) ?_
  refine awl_v (av_move rfl) ?_
  obtain ⟨x1, e2, hr⟩ := bnd_some hr
  refine awl_v (av_call (f63_runs e2) ent63 rfl rfl) ?_
  refine awl_v (av_assign rfl) ?_
  refine awl_nil (athen_norm (awc_seq ?_))
  refine awc_region ?_
  refine awl_v (av_move rfl) ?_
  refine awl_v (av_neq rfl rfl) ?_
  refine awl_nil (athen_norm ?_)
  refine awc_cond (b := !decide (x1 = 0)) rfl (fun hc3 => ?_) (fun hc3 => ?_)
  · have hr := if_t hc3 hr
    refine awc_seq ?_
    refine awc_region ?_
    refine awl_v (av_move rfl) ?_
    refine awl_v (av_assign rfl) ?_
    refine awl_v (av_assign rfl) ?_
    have hr := Option.some.inj hr
    subst hr
    exact awl_nil (athen_norm (awc_ret (athen_ret (ret_q (l' := [(6, .sl (.int .i64) ([] : List Int)), (7, .int .i64 x1)]) (wk_of hX [] 4 rfl rfl ⟨⟨_, rfl, cv2⟩, ⟨_, rfl, cv0⟩, trivial⟩ trivial) rfl ⟨rfl, rfl, trivial⟩))))
  · have hr := if_f hc3 hr
    refine awc_skip (athen_norm (awc_seq ?_))
    refine awc_region ?_
    refine awl_v (av_move rfl) ?_
    refine awl_v (av_move rfl) ?_
    obtain ⟨x4, e5, hr⟩ := bnd_some hr
    refine awl_v (av_call (f52_runs e5) ent52 rfl rfl) ?_
    refine awl_v (av_assign rfl) ?_
    refine awl_nil (athen_norm (awc_seq (awc_seq ?_)))
    refine awc_region ?_
    refine awl_v (av_move rfl) ?_
    refine awl_v (av_move rfl) ?_
    refine awl_v (av_move rfl) ?_
    obtain ⟨x6, e7, hr⟩ := bnd_some hr
    refine awl_v (av_call (f64_runs e7) ent64 rfl rfl) ?_
    refine awl_v (av_not rfl) ?_
    refine awl_nil (athen_norm ?_)
    refine awc_cond (b := !x6) rfl (fun hc8 => ?_) (fun hc8 => ?_)
    · have hr := if_t hc8 hr
      refine awc_seq ?_
      refine awc_region ?_
      refine awl_v (av_assign rfl) ?_
      refine awl_v (av_assign rfl) ?_
      have hr := Option.some.inj hr
      subst hr
      exact awl_nil (athen_norm (awc_ret (athen_ret (ret_q (l' := [(6, .sl (.int .i64) ([] : List Int)), (7, .int .i64 9)]) (wk_of hX [] 4 rfl rfl ⟨⟨_, rfl, cv2⟩, ⟨_, rfl, cv0⟩, trivial⟩ trivial) rfl ⟨rfl, rfl, trivial⟩))))
    · have hr := if_f hc8 hr
      refine awc_skip (athen_norm (awc_seq ?_))
      refine awc_region ?_
      refine awl_v (av_assign rfl) ?_
      refine awl_nil (athen_norm (awc_seq (awc_seq ?_)))
      refine awc_region ?_
      refine awl_v (av_move rfl) ?_
      refine awl_v (av_len_sl (t := Y1) rfl rfl und30 rfl) ?_
      refine awl_v (av_move rfl) ?_
      refine awl_nil (athen_norm (awc_block ?_))
      obtain ⟨o14, e15, hr⟩ := bnd_some hr
      refine awc_len (t := 1) rfl (fun hl => ?_)
      refine awc_range (S := List Int) (R := Unit) (List.length p1 : Int) (f38_b0 p1 p2 x4) (fun p => match p with | (i9, s11) => (⟨[(2, .sl (.int .i64) p2), (6, .nils), (7, .int .i64 0), (9, .sl (.slice (.int .i64)) x4), (10, .osl 0), (28, .sl Y1 p1), (29, .int .i64 (List.length p1 : Int)), (30, .int .i64 i9)], [(0, .sl 3 (.int .i64) s11)], 1⟩ : AS)) (fun o e st => match o with | .inr _ => False | .inl s11 => e = .exit 0 ∧ Wk X st ⟨[(6, .nils), (7, .int .i64 0), (10, .osl 0)], [(0, .sl 3 (.int .i64) s11)], 1⟩) (len_ok hl) e15 (Wk.trans (wk_own (t := 10) 3 (.int .i64) rfl) (wk_of hX [0] 4 rfl rfl ⟨⟨_, rfl, cv0⟩, ⟨_, rfl, cv0⟩, ⟨_, rfl, cv0⟩, ⟨_, rfl, cv0⟩, ⟨_, rfl, cv0⟩, ⟨_, rfl, cv0⟩, ⟨_, rfl, cv0⟩, ⟨_, rfl, cv0⟩, trivial⟩ ⟨cvo0, trivial⟩)) ?_ ?_
      · intro e st hx
        rcases o14 with s11 | _
        · obtain ⟨rfl, hw⟩ := hx
          refine ablock_here (athen_norm ((awc_wk hw) (awc_seq ?_)))
          refine awc_region ?_
          refine awl_v (av_move rfl) ?_
          obtain ⟨x16, e17, hr⟩ := bnd_some hr
          refine awl_op (aop_callO (σ := [0]) (as' := [.osl 0]) (f73_runs e17) ent73 rfl ⟨cv0, trivial⟩ rfl rfl rfl ?_)
          refine awl_nil (athen_norm (awc_seq ?_))
          refine awc_region ?_
          refine awl_v (av_move rfl) ?_
          refine awl_v (av_assign rfl) ?_
          refine awl_v (av_assign rfl) ?_
          have hr := Option.some.inj hr
          subst hr
          exact awl_nil (athen_norm (awc_ret (ret_q (l' := [(6, .sl (.int .i64) x16), (7, .int .i64 0)]) (wk_of hX [] 4 rfl rfl ⟨⟨_, rfl, cv0⟩, ⟨_, rfl, cv0⟩, trivial⟩ trivial) rfl ⟨rfl, rfl, trivial⟩)))
        · exact hx.elim
      · rintro i9 s11 o ho
        refine awc_seq ?_
        refine awc_region ?_
        refine awl_v (av_lss rfl rfl) ?_
        refine awl_nil (athen_norm (awc_seq ?_))
        refine awc_cond (b := decide (i9 < (List.length p1 : Int))) rfl (fun hc18 => ?_) (fun hc18 => ?_)
        · obtain ⟨q, hr, rfl⟩ := rb_t hc18 ho
          refine awc_skip (athen_norm ?_)
          obtain ⟨o20, e21, hr⟩ := bnd_some hr
          refine awc_join (S := List Int) (R := Unit) (fun s => match s with | s19 => (⟨[(2, .sl (.int .i64) p2), (6, .nils), (7, .int .i64 0), (9, .sl (.slice (.int .i64)) x4), (10, .osl 0), (28, .sl Y1 p1), (29, .int .i64 (List.length p1 : Int)), (30, .int .i64 i9)], [(0, .sl 3 (.int .i64) s19)], 1⟩ : AS)) (fun _ _ _ => False) e21 (fun hr => ?_) ?_ ?_
          · refine awc_block (awc_seq ?_)
            refine awc_region ?_
            refine awl_v (av_move rfl) ?_
            obtain ⟨x22, e23, hr⟩ := bnd_some hr
            refine awl_v (av_ia_sl (t := Y1) (e := x22) und30 sz50 rfl rfl e23) ?_
            refine awl_v (av_load_rpN ts50 rfl rfl rfl) ?_
            refine awl_op (aop_alloc zero50 rfl ?_)
            refine awl_v (av_assign rfl) ?_
            refine awl_op (aop_store sz50 rfl rfl rfl rfl rfl rfl rfl ?_)
            refine awl_nil (athen_norm (awc_seq (awc_seq ?_)))
            obtain ⟨x24, e25, hr⟩ := bnd_some hr
            obtain ⟨x26, e27, hr⟩ := bnd_some hr
            refine awc_draw mixed [2, 6, 7, 9, 10, 28, 29, 30, 12, 11] [(true, .sl (.slice (.int .i64)) x4), (true, .int .i64 i9), (true, .rp [.sl (.int .i64) x24]), (true, .sl (.int .i64) x24), (true, .sl (.int .i64) p2), (true, .ptr 1 0), (true, .int .i64 x22.1), (true, .bool x26), (true, .bool (!x26))] [[], [], [0, 1], [2], [], [], [5], [3, 4, 6], [7]] [8] rfl rfl rfl rfl rfl ⟨?_, ?_, ?_, ?_, ?_, ?_, ?_, ?_, ?_, trivial⟩ (allT_of ⟨rfl, trivial⟩) ?_
            · exact ob_v rfl (fun hg => allT_of trivial) (fun hg => av_move rfl)
            · exact ob_v rfl (fun hg => allT_of trivial) (fun hg => av_move rfl)
            · exact ob_v rfl (fun hg => allT_of ⟨rfl, rfl, trivial⟩) (fun hg => av_ia_sl (t := (.slice (.int .i64))) (e := x24) und34 sz22 rfl rfl e25)
            · exact ob_v rfl (fun hg => allT_of ⟨rfl, trivial⟩) (fun hg => av_load_rp ts22 rfl)
            · exact ob_v rfl (fun hg => allT_of trivial) (fun hg => av_move rfl)
            · exact ob_v rfl (fun hg => allT_of trivial) (fun hg => av_fa_ptr fa50_0 rfl rfl)
            · exact ob_v rfl (fun hg => allT_of ⟨rfl, trivial⟩) (fun hg => av_load_ptr ts3 rfl rfl rfl)
            · exact ob_v rfl (fun hg => allT_of ⟨rfl, rfl, rfl, trivial⟩) (fun hg => av_call (f69_runs e27) ent69 rfl rfl)
            · exact ob_v rfl (fun hg => allT_of ⟨rfl, trivial⟩) (fun hg => av_not rfl)
            refine athen_norm ?_
            refine awc_cond (b := !x26) rfl (fun hc28 => ?_) (fun hc28 => ?_)
            · have hr := if_t hc28 hr
              have hr := Option.some.inj hr
              subst hr
              exact awc_exit (athen_exit (ablock_here ((wk_of hX [0] 4 rfl rfl ⟨⟨_, rfl, cv0⟩, ⟨_, rfl, cv0⟩, ⟨_, rfl, cv0⟩, ⟨_, rfl, cv0⟩, ⟨_, rfl, cv0⟩, ⟨_, rfl, cv0⟩, ⟨_, rfl, cv0⟩, ⟨_, rfl, cv0⟩, trivial⟩ ⟨cvo0, trivial⟩))))
            · have hr := if_f hc28 hr
              refine awc_skip (athen_norm (awc_seq ?_))
              refine awc_region ?_
              refine awl_v (av_fa_ptr fa50_1 rfl rfl) ?_
              refine awl_v (av_load_ptr ts3 rfl rfl rfl) ?_
              refine awl_nil (athen_norm (awc_block (awc_seq ?_)))
              refine awc_region ?_
              refine awl_v (av_eql rfl rfl) ?_
              refine awl_v (av_assign rfl) ?_
              refine awl_nil (athen_norm ?_)
              refine awc_cond (b := decide (x22.2.1 = 2)) rfl (fun hc29 => ?_) (fun hc29 => ?_)
              · have hr := if_t hc29 hr
                refine awc_region ?_
                refine awl_v (av_move rfl) ?_
                refine awl_v (av_fa_ptr fa50_2 rfl rfl) ?_
                refine awl_v (av_load_ptr ts3 rfl rfl rfl) ?_
                refine awl_v (av_buildSlice (t := (.int .i64)) (qs := [(0, [.int .i64 x22.2.2.1])]) (ys := [x22.2.2.1]) bs22 rfl rfl rfl rfl rfl rfl rfl rfl) ?_
                obtain ⟨h30, hr⟩ := chk_some hr
                refine awl_op (aop_append rfl rfl app22 rfl rfl rfl h30 rfl ?_)
                refine awl_v (av_assign rfl) ?_
                have hr := Option.some.inj hr
                subst hr
                exact awl_nil (ablock_norm (ablock_norm ((wk_of hX [2] 4 rfl rfl ⟨⟨_, rfl, cv0⟩, ⟨_, rfl, cv0⟩, ⟨_, rfl, cv0⟩, ⟨_, rfl, cv0⟩, ⟨_, rfl, cv0⟩, ⟨_, rfl, cv0⟩, ⟨_, rfl, cv0⟩, ⟨_, rfl, cv0⟩, trivial⟩ ⟨cvo0, trivial⟩))))
              · have hr := if_f hc29 hr
                refine awc_seq ?_
                refine awc_region ?_
                refine awl_v (av_eql rfl rfl) ?_
                refine awl_v (av_assign rfl) ?_
                refine awl_nil (athen_norm ?_)
                refine awc_cond (b := decide (x22.2.1 = 3)) rfl (fun hc31 => ?_) (fun hc31 => ?_)
                · have hr := if_t hc31 hr
                  refine awc_region ?_
                  refine awl_v (av_move rfl) ?_
                  refine awl_v (av_makeFunc (us := []) (vs := [.ptr 1 0]) rfl rfl) ?_
                  refine awl_wk (wk_of (st' := ⟨[(2, .sl (.int .i64) p2), (6, .nils), (7, .int .i64 0), (9, .sl (.slice (.int .i64)) x4), (10, .osl 0), (28, .sl Y1 p1), (29, .int .i64 (List.length p1 : Int)), (30, .int .i64 i9), (12, .rp [.int .i64 x22.1, .int .i64 x22.2.1, .int .i64 x22.2.2.1, .int .i64 x22.2.2.2.1, .str x22.2.2.2.2]), (11, .int .i64 i9), (43, .bool (!x26)), (44, .rp [.int .i64 x22.2.1, .int .i64 x22.2.2.1, .int .i64 x22.2.2.2.1, .str x22.2.2.2.2]), (45, .int .i64 x22.2.1), (47, .bool (decide (x22.2.1 = 2))), (46, .bool (decide (x22.2.1 = 2))), (54, .bool (decide (x22.2.1 = 3))), (53, .bool (decide (x22.2.1 = 3))), (55, .osl 0), (56, .fn 72 [] [.rp [.int .i64 x22.1, .int .i64 x22.2.1, .int .i64 x22.2.2.1, .int .i64 x22.2.2.2.1, .str x22.2.2.2.2]])], [(0, .sl 3 (.int .i64) s11)], 1⟩) hX [0] 4 rfl rfl ⟨⟨_, rfl, cv0⟩, ⟨_, rfl, cv0⟩, ⟨_, rfl, cv0⟩, ⟨_, rfl, cv0⟩, ⟨_, rfl, cv0⟩, ⟨_, rfl, cv0⟩, ⟨_, rfl, cv0⟩, ⟨_, rfl, cv0⟩, ⟨_, rfl, cv0⟩, ⟨_, rfl, cv0⟩, ⟨_, rfl, cv0⟩, ⟨_, rfl, cv0⟩, ⟨_, rfl, cv0⟩, ⟨_, rfl, cv0⟩, ⟨_, rfl, cv0⟩, ⟨_, rfl, cv0⟩, ⟨_, rfl, cv0⟩, ⟨_, rfl, cv0⟩, ⟨_, rfl, cv0⟩, trivial⟩ ⟨cvo0, trivial⟩) ?_
                  obtain ⟨x32, e33, hr⟩ := bnd_some hr
                  refine awl_op (aop_callO (σ := [0]) (as' := [.osl 0, .fn 72 [] [.rp [.int .i64 x22.1, .int .i64 x22.2.1, .int .i64 x22.2.2.1, .int .i64 x22.2.2.2.1, .str x22.2.2.2.2]]]) (f71_runs (g1 := 72) (c1s := [.rp [.int .i64 x22.1, .int .i64 x22.2.1, .int .i64 x22.2.2.1, .int .i64 x22.2.2.2.1, .str x22.2.2.2.2]]) (fun _ r h => f72_runs h) ⟨ent72⟩ e33) ent71 rfl ⟨cv0, (cv3 rfl), trivial⟩ rfl rfl rfl ?_)
                  refine awl_v (av_assign rfl) ?_
                  have hr := Option.some.inj hr
                  subst hr
                  exact awl_nil (ablock_norm (ablock_norm ((wk_of hX [1] 4 rfl rfl ⟨⟨_, rfl, cv0⟩, ⟨_, rfl, cv0⟩, ⟨_, rfl, cv0⟩, ⟨_, rfl, cv0⟩, ⟨_, rfl, cv0⟩, ⟨_, rfl, cv0⟩, ⟨_, rfl, cv0⟩, ⟨_, rfl, cv0⟩, trivial⟩ ⟨cvo0, trivial⟩))))
                · have hr := if_f hc31 hr
                  have hr := Option.some.inj hr
                  subst hr
                  exact awc_skip (ablock_norm (ablock_norm ((wk_of hX [0] 4 rfl rfl ⟨⟨_, rfl, cv0⟩, ⟨_, rfl, cv0⟩, ⟨_, rfl, cv0⟩, ⟨_, rfl, cv0⟩, ⟨_, rfl, cv0⟩, ⟨_, rfl, cv0⟩, ⟨_, rfl, cv0⟩, ⟨_, rfl, cv0⟩, trivial⟩ ⟨cvo0, trivial⟩))))
          · rintro s19 rfl
            refine awc_region ?_
            refine awl_v (av_add rfl rfl) ?_
            refine awl_v (av_move rfl) ?_
            have hr := Option.some.inj hr
            subst hr
            exact awl_nil ((wk_of hX [0] 4 rfl rfl ⟨⟨_, rfl, cv0⟩, ⟨_, rfl, cv0⟩, ⟨_, rfl, cv0⟩, ⟨_, rfl, cv0⟩, ⟨_, rfl, cv0⟩, ⟨_, rfl, cv0⟩, ⟨_, rfl, cv0⟩, ⟨_, rfl, cv0⟩, trivial⟩ ⟨cvo0, trivial⟩))
          · exact fun r h e st hne hx => hx.elim
        · obtain rfl := rb_f hc18 ho
          exact awc_exit (athen_exit (⟨rfl, (wk_of hX [0] 4 rfl rfl ⟨⟨_, rfl, cv0⟩, ⟨_, rfl, cv0⟩, ⟨_, rfl, cv0⟩, trivial⟩ ⟨cvo0, trivial⟩)⟩))
theorem f74_runs {p0_0 : List Int} {r : List Int} (hr : f74 p0_0 = some r) : Runs Try.prog 74 [.osl 0] [.sl 3 (.int .i64) p0_0] (fun q Hq => q = [] ∧ Hq = [.sl 3 (.int .i64) r]) := by
  refine runs_w Try.func74 Try.ntmps74 rfl (rs := []) rfl rfl fun w0 X hX => ?_
  refine awc_region ?_
  refine awl_v (av_move rfl) ?_
  obtain ⟨x2, e3, hr⟩ := bnd_some hr
  refine awl_op (aop_callO (σ := [0]) (as' := [.osl 0]) (f73_runs e3) ent73 rfl ⟨cv0, trivial⟩ rfl rfl rfl ?_)
  have hr := Option.some.inj hr
  subst hr
  exact awl_nil (retW_norm (ret_o (l' := []) (Hs := [(0, .sl 3 (.int .i64) x2)]) (n := 1) (wk_of hX [0] 4 rfl rfl trivial ⟨cvo0, trivial⟩) rfl rfl rfl trivial))
theorem f39_runs {p0 : Int} {p1 : List (Int × Int × Int × Int × Str)} {p2 : List Int} {r : List Int × Int} (hr : f39 p0 p1 p2 = some r) : RunsP Try.prog 39 [.int .i64 p0, .sl Y1 p1, .sl (.int .i64) p2] [.sl (.int .i64) r.1, .int .i64 r.2] := by
  refine runs_w Try.func39 Try.ntmps39 rfl (rs := [.tmp 6, .tmp 7]) rfl rfl fun w0 X hX => ?_
  refine awc_seq ?_
  refine awc_region ?_
  refine awl_v (av_assign rfl) ?_
  refine awl_v (av_assign rfl) ?_
  refine awl_nil (athen_norm (awc_seq (awc_seq ?_)))
  refine awc_region ?_
  refine awl_v (av_move rfl) ?_
  refine awl_v (av_move rfl) ?_
  refine awl_v (av_move rfl) ?_
  obtain ⟨x1, e2, hr⟩ := bnd_some hr
  refine awl_v (av_call (f65_runs e2) ent65 rfl rfl) ?_
  refine awl_v (av_assign rfl) ?_
  refine awl_nil (athen_norm (awc_seq ?_))
  refine awc_region ?_
  refine awl_v (av_move rfl) ?_
  refine awl_v (av_neq rfl rfl) ?_
  refine awl_nil (athen_norm ?_)
  refine awc_cond (b := !decide (x1 = 0)) rfl (fun hc3 => ?_) (fun hc3 => ?_)
  · have hr := if_t hc3 hr
    refine awc_seq ?_
    refine awc_region ?_
    refine awl_v (av_move rfl) ?_
    refine awl_v (av_assign rfl) ?_
    refine awl_v (av_assign rfl) ?_
    have hr := Option.some.inj hr
    subst hr
    exact awl_nil (athen_norm (awc_ret (athen_ret (ret_q (l' := [(6, .sl (.int .i64) ([] : List Int)), (7, .int .i64 x1)]) (wk_of hX [] 4 rfl rfl ⟨⟨_, rfl, cv2⟩, ⟨_, rfl, cv0⟩, trivial⟩ trivial) rfl ⟨rfl, rfl, trivial⟩))))
  · have hr := if_f hc3 hr
    refine awc_skip (athen_norm (awc_seq ?_))
    refine awc_region ?_
    refine awl_v (av_move rfl) ?_
    refine awl_v (av_move rfl) ?_
    obtain ⟨x4, e5, hr⟩ := bnd_some hr
    refine awl_v (av_call (f67_runs e5) ent67 rfl rfl) ?_
    refine awl_v (av_assign rfl) ?_
    refine awl_nil (athen_norm (awc_seq (awc_seq ?_)))
    refine awc_region ?_
    refine awl_v (av_move rfl) ?_
    refine awl_v (av_move rfl) ?_
    refine awl_v (av_move rfl) ?_
    obtain ⟨x6, e7, hr⟩ := bnd_some hr
    refine awl_v (av_call (f23_runs e7) ent23 rfl rfl) ?_
    refine awl_v (av_move rfl) ?_
    obtain ⟨x8, e9, hr⟩ := bnd_some hr
    refine awl_v (av_call (f66_runs e9) ent66 rfl rfl) ?_
    refine awl_v (av_not rfl) ?_
    refine awl_nil (athen_norm ?_)
    refine awc_cond (b := !x8) rfl (fun hc10 => ?_) (fun hc10 => ?_)
    · have hr := if_t hc10 hr
      refine awc_seq ?_
      refine awc_region ?_
      refine awl_v (av_assign rfl) ?_
      refine awl_v (av_assign rfl) ?_
      have hr := Option.some.inj hr
      subst hr
      exact awl_nil (athen_norm (awc_ret (athen_ret (ret_q (l' := [(6, .sl (.int .i64) ([] : List Int)), (7, .int .i64 9)]) (wk_of hX [] 4 rfl rfl ⟨⟨_, rfl, cv2⟩, ⟨_, rfl, cv0⟩, trivial⟩ trivial) rfl ⟨rfl, rfl, trivial⟩))))
    · have hr := if_f hc10 hr
      refine awc_skip (athen_norm (awc_seq ?_))
      refine awc_region ?_
      refine awl_v (av_assign rfl) ?_
      refine awl_nil (athen_norm (awc_seq (awc_seq ?_)))
      refine awc_region ?_
      refine awl_v (av_move rfl) ?_
      refine awl_v (av_len_sl (t := Y1) rfl rfl und30 rfl) ?_
      refine awl_v (av_move rfl) ?_
      refine awl_nil (athen_norm (awc_block ?_))
      obtain ⟨o16, e17, hr⟩ := bnd_some hr
      refine awc_len (t := 1) rfl (fun hl => ?_)
      refine awc_range (S := List Int) (R := Unit) (List.length p1 : Int) (f39_b0 p1 p2 x4) (fun p => match p with | (i11, s13) => (⟨[(1, .sl Y1 p1), (2, .sl (.int .i64) p2), (6, .nils), (7, .int .i64 0), (9, .sl (.int .i64) x4), (10, .osl 0), (33, .sl Y1 p1), (34, .int .i64 (List.length p1 : Int)), (35, .int .i64 i11)], [(0, .sl 3 (.int .i64) s13)], 1⟩ : AS)) (fun o e st => match o with | .inr _ => False | .inl s13 => e = .exit 0 ∧ Wk X st ⟨[(6, .nils), (7, .int .i64 0), (10, .osl 0)], [(0, .sl 3 (.int .i64) s13)], 1⟩) (len_ok hl) e17 (Wk.trans (wk_own (t := 10) 3 (.int .i64) rfl) (wk_of hX [0] 4 rfl rfl ⟨⟨_, rfl, cv0⟩, ⟨_, rfl, cv0⟩, ⟨_, rfl, cv0⟩, ⟨_, rfl, cv0⟩, ⟨_, rfl, cv0⟩, ⟨_, rfl, cv0⟩, ⟨_, rfl, cv0⟩, ⟨_, rfl, cv0⟩, ⟨_, rfl, cv0⟩, trivial⟩ ⟨cvo0, trivial⟩)) ?_ ?_
      · intro e st hx
        rcases o16 with s13 | _
        · obtain ⟨rfl, hw⟩ := hx
          refine ablock_here (athen_norm ((awc_wk hw) (awc_seq ?_)))
          refine awc_region ?_
          refine awl_v (av_move rfl) ?_
          obtain ⟨x18, e19, hr⟩ := bnd_some hr
          refine awl_op (aop_callO (σ := [0]) (as' := [.osl 0]) (f74_runs e19) ent74 rfl ⟨cv0, trivial⟩ rfl rfl rfl ?_)
          refine awl_nil (athen_norm (awc_seq ?_))
          refine awc_region ?_
          refine awl_v (av_move rfl) ?_
          refine awl_v (av_assign rfl) ?_
          refine awl_v (av_assign rfl) ?_
          have hr := Option.some.inj hr
          subst hr
          exact awl_nil (athen_norm (awc_ret (ret_q (l' := [(6, .sl (.int .i64) x18), (7, .int .i64 0)]) (wk_of hX [] 4 rfl rfl ⟨⟨_, rfl, cv0⟩, ⟨_, rfl, cv0⟩, trivial⟩ trivial) rfl ⟨rfl, rfl, trivial⟩)))
        · exact hx.elim
      · rintro i11 s13 o ho
        refine awc_seq ?_
        refine awc_region ?_
        refine awl_v (av_lss rfl rfl) ?_
        refine awl_nil (athen_norm (awc_seq ?_))
        refine awc_cond (b := decide (i11 < (List.length p1 : Int))) rfl (fun hc20 => ?_) (fun hc20 => ?_)
        · obtain ⟨q, hr, rfl⟩ := rb_t hc20 ho
          refine awc_skip (athen_norm ?_)
          obtain ⟨o22, e23, hr⟩ := bnd_some hr
          refine awc_join (S := List Int) (R := Unit) (fun s => match s with | s21 => (⟨[(1, .sl Y1 p1), (2, .sl (.int .i64) p2), (6, .nils), (7, .int .i64 0), (9, .sl (.int .i64) x4), (10, .osl 0), (33, .sl Y1 p1), (34, .int .i64 (List.length p1 : Int)), (35, .int .i64 i11)], [(0, .sl 3 (.int .i64) s21)], 1⟩ : AS)) (fun _ _ _ => False) e23 (fun hr => ?_) ?_ ?_
          · refine awc_block (awc_seq ?_)
            refine awc_region ?_
            refine awl_v (av_move rfl) ?_
            obtain ⟨x24, e25, hr⟩ := bnd_some hr
            refine awl_v (av_ia_sl (t := Y1) (e := x24) und30 sz50 rfl rfl e25) ?_
            refine awl_v (av_load_rpN ts50 rfl rfl rfl) ?_
            refine awl_op (aop_alloc zero50 rfl ?_)
            refine awl_v (av_assign rfl) ?_
            refine awl_op (aop_store sz50 rfl rfl rfl rfl rfl rfl rfl ?_)
            refine awl_nil (athen_norm (awc_seq (awc_seq ?_)))
            obtain ⟨h26, hr⟩ := chk_some hr
            obtain ⟨h27, hr⟩ := chk_some hr
            refine awc_draw mixed [1, 2, 6, 7, 9, 10, 33, 34, 35, 12, 11] [(true, .ptr 1 1), (true, .int .i64 x24.2.1), (true, .bool (!decide (x24.2.1 = 2))), (true, .bool (!decide (x24.2.1 = 2))), (!(!decide (x24.2.1 = 2)), .sl (.int .i64) x4), (!(!decide (x24.2.1 = 2)), .int .i64 i11), (!(!decide (x24.2.1 = 2)), .rp [.int .i64 ((ix x4 i11).getD default)]), (!(!decide (x24.2.1 = 2)), .int .i64 ((ix x4 i11).getD default)), (!(!decide (x24.2.1 = 2)), .sl (.int .i64) p2), (!(!decide (x24.2.1 = 2)), .ptr 1 0), (!(!decide (x24.2.1 = 2)), .int .i64 x24.1), (!(!decide (x24.2.1 = 2)), .rp [.int .i64 ((ix p2 x24.1).getD default)]), (!(!decide (x24.2.1 = 2)), .int .i64 ((ix p2 x24.1).getD default)), (!(!decide (x24.2.1 = 2)), .bool (decide (((ix p2 x24.1).getD default) < ((ix x4 i11).getD default)))), (true, .bool ((!decide (x24.2.1 = 2)) || (decide (((ix p2 x24.1).getD default) < ((ix x4 i11).getD default)))))] [[], [0], [1], [2], [3], [3], [4, 5, 3], [6, 3], [3], [3], [9, 3], [8, 10, 3], [11, 3], [7, 12, 3], [13, 3]] [14] rfl rfl rfl rfl rfl ⟨?_, ?_, ?_, ?_, ?_, ?_, ?_, ?_, ?_, ?_, ?_, ?_, ?_, ?_, ?_, trivial⟩ (allT_of ⟨rfl, trivial⟩) ?_
            · exact ob_v rfl (fun hg => allT_of trivial) (fun hg => av_fa_ptr fa50_1 rfl rfl)
            · exact ob_v rfl (fun hg => allT_of ⟨rfl, trivial⟩) (fun hg => av_load_ptr ts3 rfl rfl rfl)
            · exact ob_v rfl (fun hg => allT_of ⟨rfl, trivial⟩) (fun hg => av_neq rfl rfl)
            · exact ob_v rfl (fun hg => allT_of ⟨rfl, trivial⟩) (fun hg => av_move rfl)
            · exact ob_v ⟨rfl, rfl, rfl, _, rfl, rfl⟩ (fun hg => allT_of ⟨rfl, trivial⟩) (fun hg => av_move rfl)
            · exact ob_v ⟨rfl, rfl, rfl, _, rfl, rfl⟩ (fun hg => allT_of ⟨rfl, trivial⟩) (fun hg => av_move rfl)
            · exact ob_v ⟨rfl, rfl, rfl, _, rfl, rfl⟩ (fun hg => allT_of ⟨hg, hg, rfl, trivial⟩) (fun hg => av_ia_sl (t := (.int .i64)) (e := ((ix x4 i11).getD default)) und22 sz3 rfl rfl (get_g h26 hg))
            · exact ob_v ⟨rfl, rfl, rfl, _, rfl, rfl⟩ (fun hg => allT_of ⟨hg, rfl, trivial⟩) (fun hg => av_load_rp ts3 rfl)
            · exact ob_v ⟨rfl, rfl, rfl, _, rfl, rfl⟩ (fun hg => allT_of ⟨rfl, trivial⟩) (fun hg => av_move rfl)
            · exact ob_v ⟨rfl, rfl, rfl, _, rfl, rfl⟩ (fun hg => allT_of ⟨rfl, trivial⟩) (fun hg => av_fa_ptr fa50_0 rfl rfl)
            · exact ob_v ⟨rfl, rfl, rfl, _, rfl, rfl⟩ (fun hg => allT_of ⟨hg, rfl, trivial⟩) (fun hg => av_load_ptr ts3 rfl rfl rfl)
            · exact ob_v ⟨rfl, rfl, rfl, _, rfl, rfl⟩ (fun hg => allT_of ⟨hg, hg, rfl, trivial⟩) (fun hg => av_ia_sl (t := (.int .i64)) (e := ((ix p2 x24.1).getD default)) und22 sz3 rfl rfl (get_g h27 hg))
            · exact ob_v ⟨rfl, rfl, rfl, _, rfl, rfl⟩ (fun hg => allT_of ⟨hg, rfl, trivial⟩) (fun hg => av_load_rp ts3 rfl)
            · exact ob_v ⟨rfl, rfl, rfl, _, rfl, rfl⟩ (fun hg => allT_of ⟨hg, hg, rfl, trivial⟩) (fun hg => av_gtr rfl rfl)
            · exact ob_pick (b := false) (p := !decide (x24.2.1 = 2)) (q := decide (((ix p2 x24.1).getD default) < ((ix x4 i11).getD default))) rfl rfl rfl (fun hg => allT_of ⟨rfl, trivial⟩) rfl rfl rfl rfl rfl
            refine athen_norm ?_
            refine awc_cond (b := (!decide (x24.2.1 = 2)) || (decide (((ix p2 x24.1).getD default) < ((ix x4 i11).getD default)))) rfl (fun hc28 => ?_) (fun hc28 => ?_)
            · have hr := if_t hc28 hr
              have hr := Option.some.inj hr
              subst hr
              exact awc_exit (athen_exit (ablock_here ((wk_of hX [0] 4 rfl rfl ⟨⟨_, rfl, cv0⟩, ⟨_, rfl, cv0⟩, ⟨_, rfl, cv0⟩, ⟨_, rfl, cv0⟩, ⟨_, rfl, cv0⟩, ⟨_, rfl, cv0⟩, ⟨_, rfl, cv0⟩, ⟨_, rfl, cv0⟩, ⟨_, rfl, cv0⟩, trivial⟩ ⟨cvo0, trivial⟩))))
            · have hr := if_f hc28 hr
              refine awc_skip (athen_norm (awc_seq ?_))
              refine awc_region ?_
              refine awl_v (av_assign rfl) ?_
              refine awl_nil (athen_norm (awc_seq (awc_seq ?_)))
              refine awc_region ?_
              refine awl_v (av_move rfl) ?_
              refine awl_v (av_len_sl (t := Y1) rfl rfl und30 rfl) ?_
              refine awl_v (av_move rfl) ?_
              refine awl_nil (athen_norm (awc_block ?_))
              obtain ⟨o34, e35, hr⟩ := bnd_some hr
              refine awc_len (t := 1) rfl (fun hl => ?_)
              refine awc_range (S := Bool) (R := Unit) (List.length p1 : Int) (f39_b1 p1 p2 x4 x24) (fun p => match p with | (i29, s30) => (⟨[(1, .sl Y1 p1), (2, .sl (.int .i64) p2), (6, .nils), (7, .int .i64 0), (9, .sl (.int .i64) x4), (10, .osl 0), (12, .ptr 1 0), (13, .bool s30), (33, .sl Y1 p1), (34, .int .i64 (List.length p1 : Int)), (35, .int .i64 i11), (55, .sl Y1 p1), (56, .int .i64 (List.length p1 : Int)), (57, .int .i64 i29)], [(0, .sl 3 (.int .i64) s13), (1, .var 50 [.int .i64 x24.1, .int .i64 x24.2.1, .int .i64 x24.2.2.1, .int .i64 x24.2.2.2.1, .str x24.2.2.2.2])], 2⟩ : AS)) (fun o e st => match o with | .inr _ => False | .inl s30 => e = .exit 2 ∧ Wk X st ⟨[(1, .sl Y1 p1), (2, .sl (.int .i64) p2), (6, .nils), (7, .int .i64 0), (9, .sl (.int .i64) x4), (10, .osl 0), (12, .ptr 1 0), (13, .bool s30), (33, .sl Y1 p1), (34, .int .i64 (List.length p1 : Int)), (35, .int .i64 i11)], [(0, .sl 3 (.int .i64) s13), (1, .var 50 [.int .i64 x24.1, .int .i64 x24.2.1, .int .i64 x24.2.2.1, .int .i64 x24.2.2.2.1, .str x24.2.2.2.2])], 2⟩) (len_ok hl) e35 (wk_of hX [0, 1] 4 rfl rfl ⟨⟨_, rfl, cv0⟩, ⟨_, rfl, cv0⟩, ⟨_, rfl, cv0⟩, ⟨_, rfl, cv0⟩, ⟨_, rfl, cv0⟩, ⟨_, rfl, cv0⟩, ⟨_, rfl, cv0⟩, ⟨_, rfl, cv0⟩, ⟨_, rfl, cv0⟩, ⟨_, rfl, cv0⟩, ⟨_, rfl, cv0⟩, ⟨_, rfl, cv0⟩, ⟨_, rfl, cv0⟩, ⟨_, rfl, cv0⟩, trivial⟩ ⟨cvo0, cvo0, trivial⟩) ?_ ?_
              · intro e st hx
                rcases o34 with s30 | _
                · obtain ⟨rfl, hw⟩ := hx
                  refine ablock_here (athen_norm ((awc_wk hw) (awc_seq ?_)))
                  refine awc_region ?_
                  refine awl_v (av_move rfl) ?_
                  refine awl_v (av_not rfl) ?_
                  refine awl_nil (athen_norm ?_)
                  refine awc_cond (b := !s30) rfl (fun hc36 => ?_) (fun hc36 => ?_)
                  · have hr := if_t hc36 hr
                    refine awc_region ?_
                    refine awl_v (av_move rfl) ?_
                    refine awl_v (av_fa_ptr fa50_2 rfl rfl) ?_
                    refine awl_v (av_load_ptr ts3 rfl rfl rfl) ?_
                    refine awl_v (av_buildSlice (t := (.int .i64)) (qs := [(0, [.int .i64 x24.2.2.1])]) (ys := [x24.2.2.1]) bs22 rfl rfl rfl rfl rfl rfl rfl rfl) ?_
                    obtain ⟨h37, hr⟩ := chk_some hr
                    refine awl_op (aop_append rfl rfl app22 rfl rfl rfl h37 rfl ?_)
                    refine awl_v (av_assign rfl) ?_
                    have hr := Option.some.inj hr
                    subst hr
                    exact awl_nil (ablock_norm ((wk_of hX [2] 4 rfl rfl ⟨⟨_, rfl, cv0⟩, ⟨_, rfl, cv0⟩, ⟨_, rfl, cv0⟩, ⟨_, rfl, cv0⟩, ⟨_, rfl, cv0⟩, ⟨_, rfl, cv0⟩, ⟨_, rfl, cv0⟩, ⟨_, rfl, cv0⟩, ⟨_, rfl, cv0⟩, trivial⟩ ⟨cvo0, trivial⟩)))
                  · have hr := if_f hc36 hr
                    have hr := Option.some.inj hr
                    subst hr
                    exact awc_skip (ablock_norm ((wk_of hX [0] 4 rfl rfl ⟨⟨_, rfl, cv0⟩, ⟨_, rfl, cv0⟩, ⟨_, rfl, cv0⟩, ⟨_, rfl, cv0⟩, ⟨_, rfl, cv0⟩, ⟨_, rfl, cv0⟩, ⟨_, rfl, cv0⟩, ⟨_, rfl, cv0⟩, ⟨_, rfl, cv0⟩, trivial⟩ ⟨cvo0, trivial⟩)))
                · exact hx.elim
              · rintro i29 s30 o ho
                refine awc_seq ?_
                refine awc_region ?_
                refine awl_v (av_lss rfl rfl) ?_
                refine awl_nil (athen_norm (awc_seq ?_))
                refine awc_cond (b := decide (i29 < (List.length p1 : Int))) rfl (fun hc38 => ?_) (fun hc38 => ?_)
                · obtain ⟨q, hr, rfl⟩ := rb_t hc38 ho
                  refine awc_skip (athen_norm (awc_seq (awc_block (awc_seq ?_))))
                  refine awc_region ?_
                  refine awl_v (av_move rfl) ?_
                  obtain ⟨x39, e40, hr⟩ := bnd_some hr
                  refine awl_v (av_ia_sl (t := Y1) (e := x39) und30 sz50 rfl rfl e40) ?_
                  refine awl_v (av_load_rpN ts50 rfl rfl rfl) ?_
                  refine awl_op (aop_alloc zero50 rfl ?_)
                  refine awl_v (av_assign rfl) ?_
                  refine awl_op (aop_store sz50 rfl rfl rfl rfl rfl rfl rfl ?_)
                  refine awl_nil (athen_norm ?_)
                  obtain ⟨h41, hr⟩ := chk_some hr
                  obtain ⟨h42, hr⟩ := chk_some hr
                  refine awc_draw_tail2 25 [25, 25, 25, 25, 25, 25, 25, 25, 25, 25, 25, 25, 25, 25, 25, 25, 25, 25, 25, 25, 25, 25, 25, 25, 25] mixed [1, 2, 6, 7, 9, 10, 12, 13, 33, 34, 35, 55, 56, 57, 15, 14] [(true, .bool s30), (true, .bool s30), (!s30, .ptr 2 1), (!s30, .int .i64 x39.2.1), (!s30, .bool (decide (x39.2.1 = 3))), (!s30, .bool (decide (x39.2.1 = 3))), ((!s30) && (decide (x39.2.1 = 3)), .ptr 2 2), ((!s30) && (decide (x39.2.1 = 3)), .int .i64 x39.2.2.1), ((!s30) && (decide (x39.2.1 = 3)), .ptr 1 2), ((!s30) && (decide (x39.2.1 = 3)), .int .i64 x24.2.2.1), ((!s30) && (decide (x39.2.1 = 3)), .bool (decide (x39.2.2.1 = x24.2.2.1))), (!s30, .bool ((decide (x39.2.1 = 3)) && (decide (x39.2.2.1 = x24.2.2.1)))), (!s30, .bool ((decide (x39.2.1 = 3)) && (decide (x39.2.2.1 = x24.2.2.1)))), ((!s30) && ((decide (x39.2.1 = 3)) && (decide (x39.2.2.1 = x24.2.2.1))), .sl (.int .i64) x4), ((!s30) && ((decide (x39.2.1 = 3)) && (decide (x39.2.2.1 = x24.2.2.1))), .int .i64 i29), ((!s30) && ((decide (x39.2.1 = 3)) && (decide (x39.2.2.1 = x24.2.2.1))), .rp [.int .i64 ((ix x4 i29).getD default)]), ((!s30) && ((decide (x39.2.1 = 3)) && (decide (x39.2.2.1 = x24.2.2.1))), .int .i64 ((ix x4 i29).getD default)), ((!s30) && ((decide (x39.2.1 = 3)) && (decide (x39.2.2.1 = x24.2.2.1))), .sl (.int .i64) p2), ((!s30) && ((decide (x39.2.1 = 3)) && (decide (x39.2.2.1 = x24.2.2.1))), .ptr 2 0), ((!s30) && ((decide (x39.2.1 = 3)) && (decide (x39.2.2.1 = x24.2.2.1))), .int .i64 x39.1), ((!s30) && ((decide (x39.2.1 = 3)) && (decide (x39.2.2.1 = x24.2.2.1))), .rp [.int .i64 ((ix p2 x39.1).getD default)]), ((!s30) && ((decide (x39.2.1 = 3)) && (decide (x39.2.2.1 = x24.2.2.1))), .int .i64 ((ix p2 x39.1).getD default)), ((!s30) && ((decide (x39.2.1 = 3)) && (decide (x39.2.2.1 = x24.2.2.1))), .bool (decide (((ix x4 i29).getD default) ≤ ((ix p2 x39.1).getD default)))), (!s30, .bool (((decide (x39.2.1 = 3)) && (decide (x39.2.2.1 = x24.2.2.1))) && (decide (((ix x4 i29).getD default) ≤ ((ix p2 x39.1).getD default))))), (true, .bool (s30 || (((decide (x39.2.1 = 3)) && (decide (x39.2.2.1 = x24.2.2.1))) && (decide (((ix x4 i29).getD default) ≤ ((ix p2 x39.1).getD default))))))] [[], [0], [1], [2, 1], [3, 1], [4, 1], [5], [6, 5], [5], [8, 5], [7, 9, 5], [10, 5, 1], [11, 1], [12], [12], [13, 14, 12], [15, 12], [12], [12], [18, 12], [17, 19, 12], [20, 12], [16, 21, 12], [22, 12, 1], [23, 1]] [24] rfl rfl rfl rfl rfl rfl rfl rfl ⟨?_, ?_, ?_, ?_, ?_, ?_, ?_, ?_, ?_, ?_, ?_, ?_, ?_, ?_, ?_, ?_, ?_, ?_, ?_, ?_, ?_, ?_, ?_, ?_, ?_, trivial⟩ (allT_of ⟨rfl, trivial⟩) ?_
                  · exact ob_v rfl (fun hg => allT_of trivial) (fun hg => av_move rfl)
                  · exact ob_v rfl (fun hg => allT_of ⟨rfl, trivial⟩) (fun hg => av_move rfl)
                  · exact ob_v ⟨rfl, rfl, rfl, _, rfl, rfl⟩ (fun hg => allT_of ⟨rfl, trivial⟩) (fun hg => av_fa_ptr fa50_1 rfl rfl)
                  · exact ob_v ⟨rfl, rfl, rfl, _, rfl, rfl⟩ (fun hg => allT_of ⟨hg, rfl, trivial⟩) (fun hg => av_load_ptr ts3 rfl rfl rfl)
                  · exact ob_v ⟨rfl, rfl, rfl, _, rfl, rfl⟩ (fun hg => allT_of ⟨hg, rfl, trivial⟩) (fun hg => av_eql rfl rfl)
                  · exact ob_v ⟨rfl, rfl, rfl, _, rfl, rfl⟩ (fun hg => allT_of ⟨hg, rfl, trivial⟩) (fun hg => av_move rfl)
                  · exact ob_v ⟨rfl, rfl, rfl, _, rfl, rfl⟩ (fun hg => allT_of ⟨(and_l hg), trivial⟩) (fun hg => av_fa_ptr fa50_2 rfl rfl)
                  · exact ob_v ⟨rfl, rfl, rfl, _, rfl, rfl⟩ (fun hg => allT_of ⟨hg, (and_l hg), trivial⟩) (fun hg => av_load_ptr ts3 rfl rfl rfl)
                  · exact ob_v ⟨rfl, rfl, rfl, _, rfl, rfl⟩ (fun hg => allT_of ⟨(and_l hg), trivial⟩) (fun hg => av_fa_ptr fa50_2 rfl rfl)
                  · exact ob_v ⟨rfl, rfl, rfl, _, rfl, rfl⟩ (fun hg => allT_of ⟨hg, (and_l hg), trivial⟩) (fun hg => av_load_ptr ts3 rfl rfl rfl)
                  · exact ob_v ⟨rfl, rfl, rfl, _, rfl, rfl⟩ (fun hg => allT_of ⟨hg, hg, (and_l hg), trivial⟩) (fun hg => av_eql rfl rfl)
                  · exact ob_pick (b := true) (p := decide (x39.2.1 = 3)) (q := decide (x39.2.2.1 = x24.2.2.1)) ⟨rfl, rfl, rfl, _, rfl, rfl⟩ rfl rfl (fun hg => allT_of ⟨hg, rfl, trivial⟩) rfl rfl rfl rfl rfl
                  · exact ob_v ⟨rfl, rfl, rfl, _, rfl, rfl⟩ (fun hg => allT_of ⟨hg, rfl, trivial⟩) (fun hg => av_move rfl)
                  · exact ob_v ⟨rfl, rfl, rfl, _, rfl, rfl⟩ (fun hg => allT_of ⟨(and_l hg), trivial⟩) (fun hg => av_move rfl)
                  · exact ob_v ⟨rfl, rfl, rfl, _, rfl, rfl⟩ (fun hg => allT_of ⟨(and_l hg), trivial⟩) (fun hg => av_move rfl)
                  · exact ob_v ⟨rfl, rfl, rfl, _, rfl, rfl⟩ (fun hg => allT_of ⟨hg, hg, (and_l hg), trivial⟩) (fun hg => av_ia_sl (t := (.int .i64)) (e := ((ix x4 i29).getD default)) und22 sz3 rfl rfl (get_g h41 hg))
                  · exact ob_v ⟨rfl, rfl, rfl, _, rfl, rfl⟩ (fun hg => allT_of ⟨hg, (and_l hg), trivial⟩) (fun hg => av_load_rp ts3 rfl)
                  · exact ob_v ⟨rfl, rfl, rfl, _, rfl, rfl⟩ (fun hg => allT_of ⟨(and_l hg), trivial⟩) (fun hg => av_move rfl)
                  · exact ob_v ⟨rfl, rfl, rfl, _, rfl, rfl⟩ (fun hg => allT_of ⟨(and_l hg), trivial⟩) (fun hg => av_fa_ptr fa50_0 rfl rfl)
                  · exact ob_v ⟨rfl, rfl, rfl, _, rfl, rfl⟩ (fun hg => allT_of ⟨hg, (and_l hg), trivial⟩) (fun hg => av_load_ptr ts3 rfl rfl rfl)
                  · exact ob_v ⟨rfl, rfl, rfl, _, rfl, rfl⟩ (fun hg => allT_of ⟨hg, hg, (and_l hg), trivial⟩) (fun hg => av_ia_sl (t := (.int .i64)) (e := ((ix p2 x39.1).getD default)) und22 sz3 rfl rfl (get_g h42 hg))
                  · exact ob_v ⟨rfl, rfl, rfl, _, rfl, rfl⟩ (fun hg => allT_of ⟨hg, (and_l hg), trivial⟩) (fun hg => av_load_rp ts3 rfl)
                  · exact ob_v ⟨rfl, rfl, rfl, _, rfl, rfl⟩ (fun hg => allT_of ⟨hg, hg, (and_l hg), trivial⟩) (fun hg => av_leq rfl rfl)
                  · exact ob_pick (b := true) (p := (decide (x39.2.1 = 3)) && (decide (x39.2.2.1 = x24.2.2.1))) (q := decide (((ix x4 i29).getD default) ≤ ((ix p2 x39.1).getD default))) ⟨rfl, rfl, rfl, _, rfl, rfl⟩ rfl rfl (fun hg => allT_of ⟨hg, rfl, trivial⟩) rfl rfl rfl rfl rfl
                  · exact ob_pick (b := false) (p := s30) (q := ((decide (x39.2.1 = 3)) && (decide (x39.2.2.1 = x24.2.2.1))) && (decide (((ix x4 i29).getD default) ≤ ((ix p2 x39.1).getD default)))) rfl rfl rfl (fun hg => allT_of ⟨rfl, trivial⟩) rfl rfl rfl rfl rfl
                  refine awl_v (av_assign rfl) ?_
                  refine awl_nil (ablock_norm (athen_norm ?_))
                  refine awc_region ?_
                  refine awl_v (av_add rfl rfl) ?_
                  refine awl_v (av_move rfl) ?_
                  have hr := Option.some.inj hr
                  subst hr
                  exact awl_nil ((wk_of hX [0, 1] 4 rfl rfl ⟨⟨_, rfl, cv0⟩, ⟨_, rfl, cv0⟩, ⟨_, rfl, cv0⟩, ⟨_, rfl, cv0⟩, ⟨_, rfl, cv0⟩, ⟨_, rfl, cv0⟩, ⟨_, rfl, cv0⟩, ⟨_, rfl, cv0⟩, ⟨_, rfl, cv0⟩, ⟨_, rfl, cv0⟩, ⟨_, rfl, cv0⟩, ⟨_, rfl, cv0⟩, ⟨_, rfl, cv0⟩, ⟨_, rfl, cv0⟩, trivial⟩ ⟨cvo0, cvo0, trivial⟩))
                · obtain rfl := rb_f hc38 ho
                  exact awc_exit (athen_exit (⟨rfl, (wk_of hX [0, 1] 4 rfl rfl ⟨⟨_, rfl, cv0⟩, ⟨_, rfl, cv0⟩, ⟨_, rfl, cv0⟩, ⟨_, rfl, cv0⟩, ⟨_, rfl, cv0⟩, ⟨_, rfl, cv0⟩, ⟨_, rfl, cv0⟩, ⟨_, rfl, cv0⟩, ⟨_, rfl, cv0⟩, ⟨_, rfl, cv0⟩, ⟨_, rfl, cv0⟩, trivial⟩ ⟨cvo0, cvo0, trivial⟩)⟩))
          · rintro s21 rfl
            refine awc_region ?_
            refine awl_v (av_add rfl rfl) ?_
            refine awl_v (av_move rfl) ?_
            have hr := Option.some.inj hr
            subst hr
            exact awl_nil ((wk_of hX [0] 4 rfl rfl ⟨⟨_, rfl, cv0⟩, ⟨_, rfl, cv0⟩, ⟨_, rfl, cv0⟩, ⟨_, rfl, cv0⟩, ⟨_, rfl, cv0⟩, ⟨_, rfl, cv0⟩, ⟨_, rfl, cv0⟩, ⟨_, rfl, cv0⟩, ⟨_, rfl, cv0⟩, trivial⟩ ⟨cvo0, trivial⟩))
          · exact fun r h e st hne hx => hx.elim
        · obtain rfl := rb_f hc20 ho
          exact awc_exit (athen_exit (⟨rfl, (wk_of hX [0] 4 rfl rfl ⟨⟨_, rfl, cv0⟩, ⟨_, rfl, cv0⟩, ⟨_, rfl, cv0⟩, trivial⟩ ⟨cvo0, trivial⟩)⟩))
end Go.Ab
