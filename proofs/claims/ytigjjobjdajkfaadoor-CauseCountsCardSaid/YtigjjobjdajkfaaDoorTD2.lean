/- Lemmas for a law of the seat: what functions of the program do, each stated as a contract of its own (TD2). -/
import Derived.Test.YtigjjobjdajkfaaDoorLayD
import Derived.Test.YtigjjobjdajkfaaDoorAb3
import Derived.Test.YtigjjobjdajkfaaDoorChecked
import Derived.Test.YtigjjobjdajkfaaDoorTDd
import Derived.Test.YtigjjobjdajkfaaDoorTD1
set_option linter.unusedVariables false
set_option maxRecDepth 100000
namespace Go.Ab
open Go.RowKit Go.Shelf Go.Proofs Go.Eng
theorem ent39 : Enters Tryd.prog 39 := enters_of Tryd.func39 (by kernel_rfl) rfl
theorem zero34 : Eng.Zero Tryd.prog 34 (.slice none 0 0) := fun w => by kernel_rfl
theorem ent25 : Enters Tryd.prog 25 := enters_of Tryd.func25 (by kernel_rfl) rfl
theorem ts34 : TyS Tryd.prog 34 false 1 := ⟨fun w => by kernel_rfl, fun w => by kernel_rfl⟩
theorem ts38 : TyS Tryd.prog 38 false 1 := ⟨fun w => by kernel_rfl, fun w => by kernel_rfl⟩
theorem ent26 : Enters Tryd.prog 26 := enters_of Tryd.func26 (by kernel_rfl) rfl
theorem bs34 : BuildS Tryd.prog 34 38 (.slice (.int .i64)) := buildS_of (z := .slice none 0 0) (by kernel_rfl) (by kernel_rfl) rfl
theorem app34 : AppT Tryd.prog 34 38 (Ty.cells (.slice (.int .i64))) 24 := appT_of (z := .slice none 0 0) (by kernel_rfl) (by kernel_rfl) rfl rfl
theorem sz34 : Sz Tryd.prog 34 1 := fun w => by kernel_rfl
theorem und34 : Und Tryd.prog 34 (.slice 38) := by unfold Und; kernel_rfl
theorem sz38 : Sz Tryd.prog 38 1 := fun w => by kernel_rfl
theorem ent36 : Enters Tryd.prog 36 := enters_of Tryd.func36 (by kernel_rfl) rfl
theorem ent20 : Enters Tryd.prog 20 := enters_of Tryd.func20 (by kernel_rfl) rfl
theorem ent14 : Enters Tryd.prog 14 := enters_of Tryd.func14 (by kernel_rfl) rfl
theorem ent21 : Enters Tryd.prog 21 := enters_of Tryd.func21 (by kernel_rfl) rfl
theorem ent32 : Enters Tryd.prog 32 := enters_of Tryd.func32 (by kernel_rfl) rfl
theorem ent33 : Enters Tryd.prog 33 := enters_of Tryd.func33 (by kernel_rfl) rfl
theorem ent34 : Enters Tryd.prog 34 := enters_of Tryd.func34 (by kernel_rfl) rfl
theorem ent15 : Enters Tryd.prog 15 := enters_of Tryd.func15 (by kernel_rfl) rfl
theorem f68_runs {p0 : List Int} {r : List Int} (hr : f68 p0 = some r) : Runs Tryd.prog 39 [.sl (.int .i64) p0] [] (fun q Hq => q = [.osl 0] ∧ Hq = [.sl 3 (.int .i64) r]) := by
  refine runs_w Tryd.func39 Tryd.ntmps39 rfl (rs := [.tmp 2]) rfl rfl fun w0 X hX => ?_
  refine awc_seq ?_
  refine awc_region ?_
  refine awl_v (av_assign rfl) ?_
  refine awl_nil (athen_norm (awc_seq (awc_seq ?_)))
  refine awc_region ?_
  refine awl_v (av_move rfl) ?_
  refine awl_op (aop_eqnil und38 rfl rfl (fun b2 hb3 => ?_))
  refine awl_nil (athen_norm ?_)
  refine awc_cond (b := b2) rfl (fun hc4 => ?_) (fun hc4 => ?_)
  · obtain rfl := hb3 hc4
    refine awc_seq ?_
    refine awc_region ?_
    refine awl_v (av_assign rfl) ?_
    have hr : some ([] : List Int) = some _ := hr
    have hr := Option.some.inj hr
    subst hr
    exact awl_nil (athen_norm (awc_ret (athen_ret (ret_o (l' := [(2, .osl 0)]) (Hs := [(0, .sl 3 (.int .i64) ([] : List Int))]) (n := 1) (Wk.trans (wk_own (t := 2) 3 (.int .i64) rfl) (wk_of hX [0] 4 rfl rfl ⟨⟨_, rfl, cv0⟩, trivial⟩ ⟨cvo0, trivial⟩)) rfl rfl rfl ⟨rfl, trivial⟩))))
  · refine awc_skip (athen_norm (awc_seq ?_))
    refine awc_region ?_
    refine awl_op (aop_buildSlice (t := (.int .i64)) (qs := []) (ys := ([] : List Int)) bs38 rfl rfl rfl rfl rfl rfl rfl rfl ?_)
    refine awl_v (av_move rfl) ?_
    obtain ⟨h5, hr⟩ := chk_some hr
    refine awl_op (aop_append rfl rfl app38 rfl rfl rfl h5 rfl ?_)
    refine awl_v (av_assign rfl) ?_
    have hr := Option.some.inj hr
    subst hr
    exact awl_nil (athen_norm (awc_ret (ret_o (l' := [(2, .osl 0)]) (Hs := [(0, .sl 3 (.int .i64) (([] : List Int) ++ p0))]) (n := 1) (wk_of hX [1] 4 rfl rfl ⟨⟨_, rfl, cv0⟩, trivial⟩ ⟨cvo0, trivial⟩) rfl rfl rfl ⟨rfl, trivial⟩)))
theorem f48_runs {p0 : List Int} {p1 : List Int} {r : List Int} (hr : f48 p0 p1 = some r) : Runs Tryd.prog 26 [.sl (.int .i64) p0, .sl (.int .i64) p1] [] (fun q Hq => q = [.osl 0] ∧ Hq = [.sl 3 (.int .i64) r]) := by
  refine runs_w Tryd.func26 Tryd.ntmps26 rfl (rs := [.tmp 4]) rfl rfl fun w0 X hX => ?_
  refine awc_seq ?_
  refine awc_region ?_
  refine awl_v (av_assign rfl) ?_
  refine awl_nil (athen_norm (awc_seq ?_))
  refine awc_region ?_
  refine awl_v (av_move rfl) ?_
  obtain ⟨x2, e3, hr⟩ := bnd_some hr
  refine awl_op (aop_callO (σ := []) (as' := [.sl (.int .i64) p0]) (f68_runs e3).x ent39 rfl ⟨cv0, trivial⟩ rfl rfl rfl ?_)
  refine awl_v (av_assign rfl) ?_
  refine awl_nil (athen_norm (awc_seq (awc_seq ?_)))
  refine awc_region ?_
  refine awl_v (av_move rfl) ?_
  refine awl_v (av_len_osl (t := (.int .i64)) rfl rfl und38 rfl rfl) ?_
  refine awl_v (av_move rfl) ?_
  refine awl_nil (athen_norm (awc_block ?_))
  obtain ⟨o9, e10, hr⟩ := bnd_some hr
  refine awc_lenO (i := 0) rfl rfl (fun hl => ?_)
  refine awc_range (S := List Int) (R := Unit) (List.length x2 : Int) (f48_b0 p1) (fun p => match p with | (i4, s6) => (⟨[(1, .sl (.int .i64) p1), (4, .nils), (5, .osl 0), (10, .int .i64 (List.length x2 : Int)), (11, .int .i64 i4)], [(0, .sl 3 (.int .i64) s6)], 1⟩ : AS)) (fun o e st => match o with | .inr _ => False | .inl s6 => e = .exit 0 ∧ Wk X st ⟨[(4, .nils), (5, .osl 0)], [(0, .sl 3 (.int .i64) s6)], 1⟩) (len_ok hl) e10 (wk_of hX [0] 4 rfl rfl ⟨⟨_, rfl, cv0⟩, ⟨_, rfl, cv0⟩, ⟨_, rfl, cv0⟩, ⟨_, rfl, cv0⟩, ⟨_, rfl, cv0⟩, trivial⟩ ⟨cvo0, trivial⟩) ?_ ?_
  · intro e st hx
    rcases o9 with s6 | _
    · obtain ⟨rfl, hw⟩ := hx
      refine ablock_here (athen_norm ((awc_wk hw) (awc_seq ?_)))
      refine awc_region ?_
      refine awl_v (av_move rfl) ?_
      refine awl_v (av_assign rfl) ?_
      have hr := Option.some.inj hr
      subst hr
      exact awl_nil (athen_norm (awc_ret (ret_o (l' := [(4, .osl 0)]) (Hs := [(0, .sl 3 (.int .i64) s6)]) (n := 1) (wk_of hX [0] 4 rfl rfl ⟨⟨_, rfl, cv0⟩, trivial⟩ ⟨cvo0, trivial⟩) rfl rfl rfl ⟨rfl, trivial⟩)))
    · exact hx.elim
  · rintro i4 s6 o ho
    refine awc_seq ?_
    refine awc_region ?_
    refine awl_v (av_lss rfl rfl) ?_
    refine awl_nil (athen_norm (awc_seq ?_))
    refine awc_cond (b := decide (i4 < (List.length x2 : Int))) rfl (fun hc11 => ?_) (fun hc11 => ?_)
    · obtain ⟨q, hr, rfl⟩ := rb_t hc11 ho
      refine awc_skip (athen_norm (awc_seq (awc_block (awc_seq ?_))))
      refine awc_region ?_
      refine awl_v (av_move rfl) ?_
      refine awl_v (av_assign rfl) ?_
      refine awl_nil (athen_norm ?_)
      obtain ⟨x12, e13, hr⟩ := bnd_some hr
      obtain ⟨x14, e15, hr⟩ := bnd_some hr
      refine awc_draw_tail2 12 [12, 12, 12, 12, 12, 12, 12, 12, 12, 12, 12, 12] mixed [1, 4, 5, 10, 11, 6] [(true, .osl 0), (true, .int .i64 i4), (true, .osl 0), (true, .int .i64 i4), (true, .ep 0 1 (Int.toNat i4) 0), (true, .int .i64 x12), (true, .sl (.int .i64) p1), (true, .int .i64 i4), (true, .rp [.int .i64 x14]), (true, .int .i64 x14), (true, .int .i64 (max x12 x14)), (true, .ep 0 1 (Int.toNat i4) 0)] [[], [], [], [], [2, 3], [4], [], [], [6, 7], [8], [5, 9], [0, 1]] [10, 11] rfl rfl rfl rfl rfl rfl rfl rfl ⟨?_, ?_, ?_, ?_, ?_, ?_, ?_, ?_, ?_, ?_, ?_, ?_, trivial⟩ (allT_of ⟨rfl, rfl, trivial⟩) ?_
      · exact ob_v rfl (fun hg => allT_of trivial) (fun hg => av_move rfl)
      · exact ob_v rfl (fun hg => allT_of trivial) (fun hg => av_move rfl)
      · exact ob_v rfl (fun hg => allT_of trivial) (fun hg => av_move rfl)
      · exact ob_v rfl (fun hg => allT_of trivial) (fun hg => av_move rfl)
      · exact ob_v rfl (fun hg => allT_of ⟨rfl, rfl, trivial⟩) (fun hg => av_ia_osl (t := (.int .i64)) und38 sz3 rfl rfl rfl e13)
      · exact ob_v rfl (fun hg => allT_of ⟨rfl, trivial⟩) (fun hg => av_load_ep ts3 rfl rfl rfl (ix_at e13) rfl)
      · exact ob_v rfl (fun hg => allT_of trivial) (fun hg => av_move rfl)
      · exact ob_v rfl (fun hg => allT_of trivial) (fun hg => av_move rfl)
      · exact ob_v rfl (fun hg => allT_of ⟨rfl, rfl, trivial⟩) (fun hg => av_ia_sl (t := (.int .i64)) (e := x14) und38 sz3 rfl rfl e15)
      · exact ob_v rfl (fun hg => allT_of ⟨rfl, trivial⟩) (fun hg => av_load_rp ts3 rfl)
      · exact ob_v rfl (fun hg => allT_of ⟨rfl, rfl, trivial⟩) (fun hg => av_max rfl rfl rfl)
      · exact ob_v rfl (fun hg => allT_of ⟨rfl, rfl, trivial⟩) (fun hg => av_ia_osl (t := (.int .i64)) und38 sz3 rfl rfl rfl e13)
      refine awl_op (aop_store_ep (e' := (max x12 x14)) sz3 rfl rfl rfl rfl (ix_at e13) rfl rfl rfl rfl rfl ?_)
      refine awl_nil (ablock_norm (athen_norm ?_))
      refine awc_region ?_
      refine awl_v (av_add rfl rfl) ?_
      refine awl_v (av_move rfl) ?_
      have hr := Option.some.inj hr
      subst hr
      exact awl_nil ((wk_of hX [0] 4 rfl rfl ⟨⟨_, rfl, cv0⟩, ⟨_, rfl, cv0⟩, ⟨_, rfl, cv0⟩, ⟨_, rfl, cv0⟩, ⟨_, rfl, cv0⟩, trivial⟩ ⟨cvo0, trivial⟩))
    · obtain rfl := rb_f hc11 ho
      exact awc_exit (athen_exit (⟨rfl, (wk_of hX [0] 4 rfl rfl ⟨⟨_, rfl, cv0⟩, ⟨_, rfl, cv0⟩, trivial⟩ ⟨cvo0, trivial⟩)⟩))
theorem f52_runs {p0 : Int} {p1 : List (Int × Int × Int × Int × Str)} {r : List (List Int)} (hr : f52 p0 p1 = some r) : RunsP Tryd.prog 14 [.int .i64 p0, .sl Y1 p1] [.sl (.slice (.int .i64)) r] := by
  refine runs_wM Tryd.func14 Tryd.ntmps14 rfl (rs := [.tmp 4]) rfl rfl fun w0 X hX => ?_
  refine awc_seq ?_
  refine awc_region ?_
  refine awl_op (aop_box rfl rfl ?_)
  refine awl_op (aop_box rfl rfl ?_)
  refine awl_v (av_assign rfl) ?_
  refine awl_nil (athen_norm (awc_seq ?_))
  refine awc_region ?_
  refine awl_op (aop_alloc zero34 rfl ?_)
  refine awl_nil (athen_norm (awc_seq (awc_seq ?_)))
  refine awc_region ?_
  refine awl_v (av_load_ptr ts3 rfl rfl rfl) ?_
  refine awl_v (av_load_ptr ts22 rfl rfl rfl) ?_
  obtain ⟨x1, e2, hr⟩ := bnd_some hr
  refine awl_v (av_call (f62_runs e2).x ent25 rfl rfl) ?_
  refine awl_nil (athen_norm (awc_block ?_))
  obtain ⟨s5, e10, hr⟩ := bnd_some hr
  refine awc_wk (st' := ⟨[(2, .ptr 0 0), (3, .ptr 1 0), (4, .nils), (5, .ptr 2 0), (13, .fn 36 [] [.rp [.int .i64 p0], .rp [.sl Y1 p1]])], [(0, .var 3 [.int .i64 p0]), (1, .var 22 [.sl Y1 p1]), (2, .var 34 [.osl 3]), (3, .sl 38 (.slice (.int .i64)) ([] : List (List Int)))], 4⟩) (Wk.trans (wk_ownC (i := 2) (o := 0) 38 (.slice (.int .i64)) rfl rfl rfl) (wk_of hX [0, 1, 2, 3] 4 rfl rfl ⟨⟨_, rfl, cv0⟩, ⟨_, rfl, cv0⟩, ⟨_, rfl, cv0⟩, ⟨_, rfl, cv0⟩, ⟨_, rfl, cv0⟩, trivial⟩ ⟨cvo0, cvo0, cvo0, cvo0, trivial⟩)) (awc_rangeF (σ := List (List Int)) (α := Int × List Int) 3 (f52_b0 p0 p1) (fun x => [.int .i64 x.1, .sl (.int .i64) x.2]) [(2, .ptr 0 0), (3, .ptr 1 0), (4, .nils), (5, .ptr 2 0), (13, .fn 36 [] [.rp [.int .i64 p0], .rp [.sl Y1 p1]])] (fun p => match p with | s5 => ([(0, .var 3 [.int .i64 p0]), (1, .var 22 [.sl Y1 p1]), (2, .var 34 [.osl 3]), (3, .sl 38 (.slice (.int .i64)) s5)] : AH)) 4 rfl rfl rfl ent36 rfl rfl (fun _ => rfl) rfl (by rw [hX]; rfl) rfl (fun L rec G hrec hY => f82_iter (q := (f52_b0 p0 p1)) e10 hrec hY) ?_ ?_)
  · intro w0 L X hX
    rintro s5 ⟨y11, y12⟩ s' hr
    refine awc_seq ?_
    refine awc_region ?_
    refine awl_v (av_assign rfl) ?_
    refine awl_nil (athen_norm ?_)
    refine awc_region ?_
    refine awl_v (av_assign rfl) ?_
    refine awl_nil (ranged ?_)
    intro w0
    refine awc_block (awc_seq ?_)
    refine awc_region ?_
    refine awl_v (av_load_ptr ts3 rfl rfl rfl) ?_
    obtain ⟨h13, hr⟩ := chk_some hr
    refine awl_op (aop_make (t := (.int .i64)) und38 zt3 rfl rfl h13 rfl ?_)
    refine awl_v (av_assign rfl) ?_
    refine awl_nil (athen_norm (awc_seq (awc_seq ?_)))
    refine awc_region ?_
    refine awl_v (av_move rfl) ?_
    refine awl_v (av_len_sl (t := (.int .i64)) rfl rfl und38 rfl) ?_
    refine awl_v (av_move rfl) ?_
    refine awl_nil (athen_norm (awc_block ?_))
    obtain ⟨o19, e20, hr⟩ := bnd_some hr
    refine awc_len (t := 15) rfl (fun hl => ?_)
    refine awc_range (S := List Int) (R := Unit) (List.length y12 : Int) (f52_b1 s5 y12) (fun p => match p with | (i14, s16) => (⟨[(2, .ptr 0 0), (3, .ptr 1 0), (4, .nils), (5, .ptr 2 0), (6, .int .i64 y11), (7, .sl (.int .i64) y12), (8, .osl 3), (14, .int .i64 y11), (15, .sl (.int .i64) y12), (18, .sl (.int .i64) y12), (19, .int .i64 (List.length y12 : Int)), (20, .int .i64 i14)], [(0, .var 3 [.int .i64 p0]), (1, .var 22 [.sl Y1 p1]), (2, .var 34 [.osl 4]), (3, .sl 3 (.int .i64) s16), (4, .sl 38 (.slice (.int .i64)) s5)], 5⟩ : AS)) (fun o e st => match o with | .inr _ => False | .inl s16 => e = .exit 2 ∧ Wk X st ⟨[(2, .ptr 0 0), (3, .ptr 1 0), (4, .nils), (5, .ptr 2 0), (6, .int .i64 y11), (7, .sl (.int .i64) y12), (8, .osl 3), (14, .int .i64 y11), (15, .sl (.int .i64) y12)], [(0, .var 3 [.int .i64 p0]), (1, .var 22 [.sl Y1 p1]), (2, .var 34 [.osl 4]), (3, .sl 3 (.int .i64) s16), (4, .sl 38 (.slice (.int .i64)) s5)], 5⟩) (len_ok hl) e20 (wk_of hX [0, 1, 2, 4, 3] 4 rfl rfl ⟨⟨_, rfl, cv0⟩, ⟨_, rfl, cv0⟩, ⟨_, rfl, cv0⟩, ⟨_, rfl, cv0⟩, ⟨_, rfl, cv0⟩, ⟨_, rfl, cv0⟩, ⟨_, rfl, cv0⟩, ⟨_, rfl, cv0⟩, ⟨_, rfl, cv0⟩, ⟨_, rfl, cv0⟩, ⟨_, rfl, cv0⟩, ⟨_, rfl, cv0⟩, trivial⟩ ⟨cvo0, cvo0, cvo0, cvo0, cvo0, trivial⟩) ?_ ?_
    · intro e st hx
      rcases o19 with s16 | _
      · obtain ⟨rfl, hw⟩ := hx
        refine ablock_here (athen_norm ((awc_wk hw) (awc_seq ?_)))
        refine awc_region ?_
        refine awl_v (av_move rfl) ?_
        refine awl_v (av_load_ptr ts22 rfl rfl rfl) ?_
        refine awl_v (av_move rfl) ?_
        obtain ⟨x21, e22, hr⟩ := bnd_some hr
        refine awl_v (av_ia_sl (t := Y1) (e := x21) und22 sz30 rfl rfl e22) ?_
        refine awl_v (av_fa_rp fa30_0 rfl rfl) ?_
        refine awl_v (av_load_rp ts3 rfl) ?_
        obtain ⟨x23, e24, hr⟩ := bnd_some hr
        refine awl_v (av_ia_osl (t := (.int .i64)) und38 sz3 rfl rfl rfl e24) ?_
        refine awl_v (av_load_ep ts3 rfl rfl rfl (ix_at e24) rfl) ?_
        refine awl_v (av_add rfl rfl) ?_
        refine awl_v (av_ia_osl (t := (.int .i64)) und38 sz3 rfl rfl rfl e24) ?_
        refine awl_op (aop_store_ep (e' := (w64 (x23 + 1))) sz3 rfl rfl rfl rfl (ix_at e24) rfl rfl rfl rfl rfl ?_)
        refine awl_nil (athen_norm ?_)
        refine awc_region ?_
        refine awl_v (av_load_ptr ts34 rfl rfl rfl) ?_
        refine awl_v (av_move rfl) ?_
        refine awl_wk (wk_of (st' := ⟨[(2, .ptr 0 0), (3, .ptr 1 0), (4, .nils), (5, .ptr 2 0), (6, .int .i64 y11), (7, .sl (.int .i64) y12), (8, .sl (.int .i64) (s16.set (Int.toNat x21.1) (w64 (x23 + 1)))), (14, .int .i64 y11), (15, .sl (.int .i64) y12), (31, .sl (.int .i64) (s16.set (Int.toNat x21.1) (w64 (x23 + 1)))), (32, .sl Y1 p1), (33, .int .i64 y11), (34, .rp [.int .i64 x21.1, .int .i64 x21.2.1, .int .i64 x21.2.2.1, .int .i64 x21.2.2.2.1, .str x21.2.2.2.2]), (35, .rp [.int .i64 x21.1, .int .i64 x21.2.1, .int .i64 x21.2.2.1, .int .i64 x21.2.2.2.1, .str x21.2.2.2.2]), (36, .int .i64 x21.1), (37, .any), (38, .int .i64 x23), (39, .int .i64 (w64 (x23 + 1))), (40, .any), (41, .osl 3), (42, .sl (.int .i64) (s16.set (Int.toNat x21.1) (w64 (x23 + 1))))], [(0, .var 3 [.int .i64 p0]), (1, .var 22 [.sl Y1 p1]), (2, .var 34 [.osl 3]), (3, .sl 38 (.slice (.int .i64)) s5)], 4⟩) hX [0, 1, 2, 4] 4 rfl rfl ⟨⟨_, rfl, cv0⟩, ⟨_, rfl, cv0⟩, ⟨_, rfl, cv0⟩, ⟨_, rfl, cv0⟩, ⟨_, rfl, cv0⟩, ⟨_, rfl, cv0⟩, ⟨_, rfl, cv0⟩, ⟨_, rfl, cv0⟩, ⟨_, rfl, cv0⟩, ⟨_, rfl, cv0⟩, ⟨_, rfl, cv0⟩, ⟨_, rfl, cv0⟩, ⟨_, rfl, cv0⟩, ⟨_, rfl, cv0⟩, ⟨_, rfl, cv0⟩, ⟨_, rfl, cv0⟩, ⟨_, rfl, cv0⟩, ⟨_, rfl, cv0⟩, ⟨_, rfl, cv0⟩, ⟨_, rfl, cv0⟩, ⟨_, rfl, cv0⟩, trivial⟩ ⟨cvo0, cvo0, cvo0, cvo0, trivial⟩) ?_
        refine awl_v (av_buildSlice (t := (.slice (.int .i64))) (qs := [(0, [.sl (.int .i64) (s16.set (Int.toNat x21.1) (w64 (x23 + 1)))])]) (ys := [(s16.set (Int.toNat x21.1) (w64 (x23 + 1)))]) bs34 rfl rfl rfl rfl rfl rfl rfl rfl) ?_
        obtain ⟨h25, hr⟩ := chk_some hr
        refine awl_op (aop_append rfl rfl app34 rfl rfl rfl h25 rfl ?_)
        refine awl_op (aop_store sz34 rfl rfl rfl rfl rfl rfl rfl ?_)
        have hr := Option.some.inj hr
        subst hr
        exact awl_nil (ablock_norm ((wk_of hX [0, 1, 2, 4] 4 rfl rfl trivial ⟨cvo0, cvo0, cvo0, cvo0, trivial⟩)))
      · exact hx.elim
    · rintro i14 s16 o ho
      refine awc_seq ?_
      refine awc_region ?_
      refine awl_v (av_lss rfl rfl) ?_
      refine awl_nil (athen_norm (awc_seq ?_))
      refine awc_cond (b := decide (i14 < (List.length y12 : Int))) rfl (fun hc26 => ?_) (fun hc26 => ?_)
      · obtain ⟨q, hr, rfl⟩ := rb_t hc26 ho
        refine awc_skip (athen_norm (awc_seq (awc_block (awc_seq ?_))))
        refine awc_region ?_
        obtain ⟨x27, e28, hr⟩ := bnd_some hr
        refine awl_v (av_ia_sl (t := (.int .i64)) (e := x27) und38 sz3 rfl rfl e28) ?_
        refine awl_v (av_load_rp ts3 rfl) ?_
        refine awl_v (av_assign rfl) ?_
        refine awl_nil (athen_norm ?_)
        refine awc_region ?_
        refine awl_v (av_move rfl) ?_
        refine awl_v (av_load_ptr ts34 rfl rfl rfl) ?_
        refine awl_v (av_move rfl) ?_
        obtain ⟨x29, e30, hr⟩ := bnd_some hr
        refine awl_v (av_ia_osl (t := (.slice (.int .i64))) und34 sz38 rfl rfl rfl e30) ?_
        refine awl_v (av_load_ep ts38 rfl rfl rfl (ix_at e30) rfl) ?_
        refine awl_wk (wk_frz [8, 24] 3 rfl rfl rfl) ?_
        obtain ⟨x31, e32, hr⟩ := bnd_some hr
        refine awl_op (aop_callO (σ := []) (as' := [.sl (.int .i64) s16, .sl (.int .i64) x29]) (f48_runs e32).x ent26 rfl ⟨cv0, cv0, trivial⟩ rfl rfl rfl ?_)
        refine awl_v (av_assign rfl) ?_
        refine awl_nil (ablock_norm (athen_norm ?_))
        refine awc_region ?_
        refine awl_v (av_add rfl rfl) ?_
        refine awl_v (av_move rfl) ?_
        have hr := Option.some.inj hr
        subst hr
        exact awl_nil ((wk_of hX [0, 1, 2, 5, 4] 4 rfl rfl ⟨⟨_, rfl, cv0⟩, ⟨_, rfl, cv0⟩, ⟨_, rfl, cv0⟩, ⟨_, rfl, cv0⟩, ⟨_, rfl, cv0⟩, ⟨_, rfl, cv0⟩, ⟨_, rfl, cv0⟩, ⟨_, rfl, cv0⟩, ⟨_, rfl, cv0⟩, ⟨_, rfl, cv0⟩, ⟨_, rfl, cv0⟩, ⟨_, rfl, cv0⟩, trivial⟩ ⟨cvo0, cvo0, cvo0, cvo0, cvo0, trivial⟩))
      · obtain rfl := rb_f hc26 ho
        exact awc_exit (athen_exit (⟨rfl, (wk_of hX [0, 1, 2, 3, 4] 4 rfl rfl ⟨⟨_, rfl, cv0⟩, ⟨_, rfl, cv0⟩, ⟨_, rfl, cv0⟩, ⟨_, rfl, cv0⟩, ⟨_, rfl, cv0⟩, ⟨_, rfl, cv0⟩, ⟨_, rfl, cv0⟩, ⟨_, rfl, cv0⟩, ⟨_, rfl, cv0⟩, trivial⟩ ⟨cvo0, cvo0, cvo0, cvo0, cvo0, trivial⟩)⟩))
  refine ablock_norm (athen_norm (awc_seq ?_))
  refine awc_region ?_
  refine awl_v (av_load_ptr ts34 rfl rfl rfl) ?_
  refine awl_v (av_assign rfl) ?_
  have hr := Option.some.inj hr
  subst hr
  exact awl_nil (athen_norm (awc_ret (ret_q (l' := [(4, .sl (.slice (.int .i64)) s5)]) (wk_of hX [] 4 rfl rfl ⟨⟨_, rfl, cv0⟩, trivial⟩ trivial) rfl ⟨rfl, trivial⟩)))
theorem f58_runs {p0 : List (Int × Int × Int × Int × Str)} {p1 : List (List Int)} {p2 : Int} {p3 : Int} {r : Bool} (hr : f58 p0 p1 p2 p3 = some r) : RunsP Tryd.prog 21 [.sl Y1 p0, .sl (.slice (.int .i64)) p1, .int .i64 p2, .int .i64 p3] [.bool r] := by
  refine runs_w Tryd.func21 Tryd.ntmps21 rfl (rs := [.tmp 8]) rfl rfl fun w0 X hX => ?_
  refine awc_seq ?_
  refine awc_region ?_
  refine awl_v (av_assign rfl) ?_
  refine awl_nil (athen_norm (awc_seq ?_))
  obtain ⟨h1, hr⟩ := chk_some hr
  obtain ⟨h2, hr⟩ := chk_some hr
  obtain ⟨h3, hr⟩ := chk_some hr
  obtain ⟨h4, hr⟩ := chk_some hr
  obtain ⟨h5, hr⟩ := chk_some hr
  refine awc_draw mixed [0, 1, 2, 3] [(true, .int .i64 p2), (true, .int .i64 p3), (true, .bool (!decide (p2 = p3))), (true, .bool (!decide (p2 = p3))), (!decide (p2 = p3), .sl (.slice (.int .i64)) p1), (!decide (p2 = p3), .int .i64 p3), (!decide (p2 = p3), .rp [.sl (.int .i64) ((ix p1 p3).getD default)]), (!decide (p2 = p3), .sl (.int .i64) ((ix p1 p3).getD default)), (!decide (p2 = p3), .sl Y1 p0), (!decide (p2 = p3), .int .i64 p2), (!decide (p2 = p3), .rp [.int .i64 ((((ix p0 p2).getD default)).1), .int .i64 (((((ix p0 p2).getD default)).2).1), .int .i64 ((((((ix p0 p2).getD default)).2).2).1), .int .i64 (((((((ix p0 p2).getD default)).2).2).2).1), .str (((((((ix p0 p2).getD default)).2).2).2).2)]), (!decide (p2 = p3), .rp [.int .i64 ((((ix p0 p2).getD default)).1), .int .i64 (((((ix p0 p2).getD default)).2).1), .int .i64 ((((((ix p0 p2).getD default)).2).2).1), .int .i64 (((((((ix p0 p2).getD default)).2).2).2).1), .str (((((((ix p0 p2).getD default)).2).2).2).2)]), (!decide (p2 = p3), .int .i64 ((((ix p0 p2).getD default)).1)), (!decide (p2 = p3), .rp [.int .i64 ((ix ((ix p1 p3).getD default) ((((ix p0 p2).getD default)).1)).getD default)]), (!decide (p2 = p3), .int .i64 ((ix ((ix p1 p3).getD default) ((((ix p0 p2).getD default)).1)).getD default)), (!decide (p2 = p3), .sl (.slice (.int .i64)) p1), (!decide (p2 = p3), .int .i64 p2), (!decide (p2 = p3), .rp [.sl (.int .i64) ((ix p1 p2).getD default)]), (!decide (p2 = p3), .sl (.int .i64) ((ix p1 p2).getD default)), (!decide (p2 = p3), .sl Y1 p0), (!decide (p2 = p3), .int .i64 p2), (!decide (p2 = p3), .rp [.int .i64 ((((ix p0 p2).getD default)).1), .int .i64 (((((ix p0 p2).getD default)).2).1), .int .i64 ((((((ix p0 p2).getD default)).2).2).1), .int .i64 (((((((ix p0 p2).getD default)).2).2).2).1), .str (((((((ix p0 p2).getD default)).2).2).2).2)]), (!decide (p2 = p3), .rp [.int .i64 ((((ix p0 p2).getD default)).1), .int .i64 (((((ix p0 p2).getD default)).2).1), .int .i64 ((((((ix p0 p2).getD default)).2).2).1), .int .i64 (((((((ix p0 p2).getD default)).2).2).2).1), .str (((((((ix p0 p2).getD default)).2).2).2).2)]), (!decide (p2 = p3), .int .i64 ((((ix p0 p2).getD default)).1)), (!decide (p2 = p3), .rp [.int .i64 ((ix ((ix p1 p2).getD default) ((((ix p0 p2).getD default)).1)).getD default)]), (!decide (p2 = p3), .int .i64 ((ix ((ix p1 p2).getD default) ((((ix p0 p2).getD default)).1)).getD default)), (!decide (p2 = p3), .bool (decide (((ix ((ix p1 p2).getD default) ((((ix p0 p2).getD default)).1)).getD default) ≤ ((ix ((ix p1 p3).getD default) ((((ix p0 p2).getD default)).1)).getD default)))), (true, .bool ((!decide (p2 = p3)) && (decide (((ix ((ix p1 p2).getD default) ((((ix p0 p2).getD default)).1)).getD default) ≤ ((ix ((ix p1 p3).getD default) ((((ix p0 p2).getD default)).1)).getD default))))), (true, .bool ((!decide (p2 = p3)) && (decide (((ix ((ix p1 p2).getD default) ((((ix p0 p2).getD default)).1)).getD default) ≤ ((ix ((ix p1 p3).getD default) ((((ix p0 p2).getD default)).1)).getD default)))))] [[], [], [0, 1], [2], [3], [3], [4, 5, 3], [6, 3], [3], [3], [8, 9, 3], [10, 3], [11, 3], [7, 12, 3], [13, 3], [3], [3], [15, 16, 3], [17, 3], [3], [3], [19, 20, 3], [21, 3], [22, 3], [18, 23, 3], [24, 3], [14, 25, 3], [26, 3], [27]] [28] rfl rfl rfl rfl rfl ⟨?_, ?_, ?_, ?_, ?_, ?_, ?_, ?_, ?_, ?_, ?_, ?_, ?_, ?_, ?_, ?_, ?_, ?_, ?_, ?_, ?_, ?_, ?_, ?_, ?_, ?_, ?_, ?_, ?_, trivial⟩ (allT_of ⟨rfl, trivial⟩) ?_
  · exact ob_v rfl (fun hg => allT_of trivial) (fun hg => av_move rfl)
  · exact ob_v rfl (fun hg => allT_of trivial) (fun hg => av_move rfl)
  · exact ob_v rfl (fun hg => allT_of ⟨rfl, rfl, trivial⟩) (fun hg => av_neq rfl rfl)
  · exact ob_v rfl (fun hg => allT_of ⟨rfl, trivial⟩) (fun hg => av_move rfl)
  · exact ob_v ⟨rfl, rfl, rfl, _, rfl, rfl⟩ (fun hg => allT_of ⟨rfl, trivial⟩) (fun hg => av_move rfl)
  · exact ob_v ⟨rfl, rfl, rfl, _, rfl, rfl⟩ (fun hg => allT_of ⟨rfl, trivial⟩) (fun hg => av_move rfl)
  · exact ob_v ⟨rfl, rfl, rfl, _, rfl, rfl⟩ (fun hg => allT_of ⟨hg, hg, rfl, trivial⟩) (fun hg => av_ia_sl (t := (.slice (.int .i64))) (e := ((ix p1 p3).getD default)) und34 sz38 rfl rfl (get_g h1 hg))
  · exact ob_v ⟨rfl, rfl, rfl, _, rfl, rfl⟩ (fun hg => allT_of ⟨hg, rfl, trivial⟩) (fun hg => av_load_rp ts38 rfl)
  · exact ob_v ⟨rfl, rfl, rfl, _, rfl, rfl⟩ (fun hg => allT_of ⟨rfl, trivial⟩) (fun hg => av_move rfl)
  · exact ob_v ⟨rfl, rfl, rfl, _, rfl, rfl⟩ (fun hg => allT_of ⟨rfl, trivial⟩) (fun hg => av_move rfl)
  · exact ob_v ⟨rfl, rfl, rfl, _, rfl, rfl⟩ (fun hg => allT_of ⟨hg, hg, rfl, trivial⟩) (fun hg => av_ia_sl (t := Y1) (e := ((ix p0 p2).getD default)) und22 sz30 rfl rfl (get_g h2 hg))
  · exact ob_v ⟨rfl, rfl, rfl, _, rfl, rfl⟩ (fun hg => allT_of ⟨hg, rfl, trivial⟩) (fun hg => av_fa_rp fa30_0 rfl rfl)
  · exact ob_v ⟨rfl, rfl, rfl, _, rfl, rfl⟩ (fun hg => allT_of ⟨hg, rfl, trivial⟩) (fun hg => av_load_rp ts3 rfl)
  · exact ob_v ⟨rfl, rfl, rfl, _, rfl, rfl⟩ (fun hg => allT_of ⟨hg, hg, rfl, trivial⟩) (fun hg => av_ia_sl (t := (.int .i64)) (e := ((ix ((ix p1 p3).getD default) ((((ix p0 p2).getD default)).1)).getD default)) und38 sz3 rfl rfl (get_g h3 hg))
  · exact ob_v ⟨rfl, rfl, rfl, _, rfl, rfl⟩ (fun hg => allT_of ⟨hg, rfl, trivial⟩) (fun hg => av_load_rp ts3 rfl)
  · exact ob_v ⟨rfl, rfl, rfl, _, rfl, rfl⟩ (fun hg => allT_of ⟨rfl, trivial⟩) (fun hg => av_move rfl)
  · exact ob_v ⟨rfl, rfl, rfl, _, rfl, rfl⟩ (fun hg => allT_of ⟨rfl, trivial⟩) (fun hg => av_move rfl)
  · exact ob_v ⟨rfl, rfl, rfl, _, rfl, rfl⟩ (fun hg => allT_of ⟨hg, hg, rfl, trivial⟩) (fun hg => av_ia_sl (t := (.slice (.int .i64))) (e := ((ix p1 p2).getD default)) und34 sz38 rfl rfl (get_g h4 hg))
  · exact ob_v ⟨rfl, rfl, rfl, _, rfl, rfl⟩ (fun hg => allT_of ⟨hg, rfl, trivial⟩) (fun hg => av_load_rp ts38 rfl)
  · exact ob_v ⟨rfl, rfl, rfl, _, rfl, rfl⟩ (fun hg => allT_of ⟨rfl, trivial⟩) (fun hg => av_move rfl)
  · exact ob_v ⟨rfl, rfl, rfl, _, rfl, rfl⟩ (fun hg => allT_of ⟨rfl, trivial⟩) (fun hg => av_move rfl)
  · exact ob_v ⟨rfl, rfl, rfl, _, rfl, rfl⟩ (fun hg => allT_of ⟨hg, hg, rfl, trivial⟩) (fun hg => av_ia_sl (t := Y1) (e := ((ix p0 p2).getD default)) und22 sz30 rfl rfl (get_g h2 hg))
  · exact ob_v ⟨rfl, rfl, rfl, _, rfl, rfl⟩ (fun hg => allT_of ⟨hg, rfl, trivial⟩) (fun hg => av_fa_rp fa30_0 rfl rfl)
  · exact ob_v ⟨rfl, rfl, rfl, _, rfl, rfl⟩ (fun hg => allT_of ⟨hg, rfl, trivial⟩) (fun hg => av_load_rp ts3 rfl)
  · exact ob_v ⟨rfl, rfl, rfl, _, rfl, rfl⟩ (fun hg => allT_of ⟨hg, hg, rfl, trivial⟩) (fun hg => av_ia_sl (t := (.int .i64)) (e := ((ix ((ix p1 p2).getD default) ((((ix p0 p2).getD default)).1)).getD default)) und38 sz3 rfl rfl (get_g h5 hg))
  · exact ob_v ⟨rfl, rfl, rfl, _, rfl, rfl⟩ (fun hg => allT_of ⟨hg, rfl, trivial⟩) (fun hg => av_load_rp ts3 rfl)
  · exact ob_v ⟨rfl, rfl, rfl, _, rfl, rfl⟩ (fun hg => allT_of ⟨hg, hg, rfl, trivial⟩) (fun hg => av_geq rfl rfl)
  · exact ob_pick (b := true) (p := !decide (p2 = p3)) (q := decide (((ix ((ix p1 p2).getD default) ((((ix p0 p2).getD default)).1)).getD default) ≤ ((ix ((ix p1 p3).getD default) ((((ix p0 p2).getD default)).1)).getD default))) rfl rfl rfl (fun hg => allT_of ⟨rfl, trivial⟩) rfl rfl rfl rfl rfl
  · exact ob_v rfl (fun hg => allT_of ⟨rfl, trivial⟩) (fun hg => av_assign rfl)
  have hr := Option.some.inj hr
  subst hr
  exact athen_norm (awc_ret (ret_q (l' := [(8, .bool ((!decide (p2 = p3)) && (decide (((ix ((ix p1 p2).getD default) ((((ix p0 p2).getD default)).1)).getD default) ≤ ((ix ((ix p1 p3).getD default) ((((ix p0 p2).getD default)).1)).getD default)))))]) (wk_of hX [] 4 rfl rfl ⟨⟨_, rfl, cv0⟩, trivial⟩ trivial) rfl ⟨rfl, trivial⟩))
theorem f24_runs {p0 : Int} {p1 : List (Int × Int × Int × Int × Str)} {p2 : Int} {p3 : Int} {r : Bool × Int} (hr : f24 p0 p1 p2 p3 = some r) : RunsP Tryd.prog 8 [.int .i64 p0, .sl Y1 p1, .int .i64 p2, .int .i64 p3] [.bool r.1, .int .i64 r.2] := by
  refine runs_w Tryd.func8 Tryd.ntmps8 rfl (rs := [.tmp 8, .tmp 9]) rfl rfl fun w0 X hX => ?_
  refine awc_seq ?_
  refine awc_region ?_
  refine awl_v (av_assign rfl) ?_
  refine awl_v (av_assign rfl) ?_
  refine awl_nil (athen_norm (awc_seq (awc_seq ?_)))
  refine awc_region ?_
  refine awl_v (av_move rfl) ?_
  refine awl_v (av_move rfl) ?_
  refine awl_v (av_move rfl) ?_
  refine awl_v (av_move rfl) ?_
  refine awl_v (av_buildSlice (t := (.int .i64)) (qs := [(0, [.int .i64 p2]), (1, [.int .i64 p3])]) (ys := [p2, p3]) bs38 rfl rfl rfl rfl rfl rfl rfl rfl) ?_
  obtain ⟨x1, e2, hr⟩ := bnd_some hr
  refine awl_v (av_call (f57_runs e2).x ent20 rfl rfl) ?_
  refine awl_v (av_assign rfl) ?_
  refine awl_nil (athen_norm (awc_seq ?_))
  refine awc_region ?_
  refine awl_v (av_move rfl) ?_
  refine awl_v (av_neq rfl rfl) ?_
  refine awl_nil (athen_norm ?_)
  refine awc_cond (b := !decide (x1 = 0)) rfl (fun hc3 => ?_) (fun hc3 => ?_)
  · have hr := if_t hc3 hr
    refine awc_seq ?_
    refine awc_region ?_
    refine awl_v (av_move rfl) ?_
    refine awl_v (av_assign rfl) ?_
    refine awl_v (av_assign rfl) ?_
    have hr := Option.some.inj hr
    subst hr
    exact awl_nil (athen_norm (awc_ret (athen_ret (ret_q (l' := [(8, .bool false), (9, .int .i64 x1)]) (wk_of hX [] 4 rfl rfl ⟨⟨_, rfl, cv0⟩, ⟨_, rfl, cv0⟩, trivial⟩ trivial) rfl ⟨rfl, rfl, trivial⟩))))
  · have hr := if_f hc3 hr
    refine awc_skip (athen_norm (awc_seq ?_))
    refine awc_region ?_
    refine awl_v (av_move rfl) ?_
    refine awl_v (av_move rfl) ?_
    refine awl_v (av_move rfl) ?_
    obtain ⟨x4, e5, hr⟩ := bnd_some hr
    refine awl_v (av_call (f52_runs e5).x ent14 rfl rfl) ?_
    refine awl_v (av_move rfl) ?_
    refine awl_v (av_move rfl) ?_
    obtain ⟨x6, e7, hr⟩ := bnd_some hr
    refine awl_v (av_call (f58_runs e7).x ent21 rfl rfl) ?_
    refine awl_v (av_assign rfl) ?_
    refine awl_v (av_assign rfl) ?_
    have hr := Option.some.inj hr
    subst hr
    exact awl_nil (athen_norm (awc_ret (ret_q (l' := [(8, .bool x6), (9, .int .i64 0)]) (wk_of hX [] 4 rfl rfl ⟨⟨_, rfl, cv0⟩, ⟨_, rfl, cv0⟩, trivial⟩ trivial) rfl ⟨rfl, rfl, trivial⟩)))
theorem f19_runs {p0 : Int} {p1 : List (Int × Int × Int × Int × Str)} {r : List (List Int) × Int} (hr : f19 p0 p1 = some r) : RunsP Tryd.prog 10 [.int .i64 p0, .sl Y1 p1] [.sl (.slice (.int .i64)) r.1, .int .i64 r.2] := by
  refine runs_w Tryd.func10 Tryd.ntmps10 rfl (rs := [.tmp 4, .tmp 5]) rfl rfl fun w0 X hX => ?_
  refine awc_seq ?_
  refine awc_region ?_
  refine awl_v (av_assign rfl) ?_
  refine awl_v (av_assign rfl) ?_
  refine awl_nil (athen_norm (awc_seq (awc_seq ?_)))
  refine awc_region ?_
  refine awl_v (av_move rfl) ?_
  refine awl_v (av_move rfl) ?_
  obtain ⟨x1, e2, hr⟩ := bnd_some hr
  refine awl_v (av_call (f17_runs e2).x ent13 rfl rfl) ?_
  refine awl_v (av_not rfl) ?_
  refine awl_nil (athen_norm ?_)
  refine awc_cond (b := !x1) rfl (fun hc3 => ?_) (fun hc3 => ?_)
  · have hr := if_t hc3 hr
    refine awc_seq ?_
    refine awc_region ?_
    refine awl_v (av_assign rfl) ?_
    refine awl_v (av_assign rfl) ?_
    have hr := Option.some.inj hr
    subst hr
    exact awl_nil (athen_norm (awc_ret (athen_ret (ret_q (l' := [(4, .sl (.slice (.int .i64)) ([] : List (List Int))), (5, .int .i64 1)]) (wk_of hX [] 4 rfl rfl ⟨⟨_, rfl, cv2⟩, ⟨_, rfl, cv0⟩, trivial⟩ trivial) rfl ⟨rfl, rfl, trivial⟩))))
  · have hr := if_f hc3 hr
    refine awc_skip (athen_norm (awc_seq ?_))
    refine awc_region ?_
    refine awl_v (av_move rfl) ?_
    refine awl_v (av_move rfl) ?_
    obtain ⟨x4, e5, hr⟩ := bnd_some hr
    refine awl_v (av_call (f52_runs e5).x ent14 rfl rfl) ?_
    refine awl_v (av_assign rfl) ?_
    refine awl_v (av_assign rfl) ?_
    have hr := Option.some.inj hr
    subst hr
    exact awl_nil (athen_norm (awc_ret (ret_q (l' := [(4, .sl (.slice (.int .i64)) x4), (5, .int .i64 0)]) (wk_of hX [] 4 rfl rfl ⟨⟨_, rfl, cv0⟩, ⟨_, rfl, cv0⟩, trivial⟩ trivial) rfl ⟨rfl, rfl, trivial⟩)))
theorem f84_runs {p0 : Int} {r : Bool} (hr : f84 p0 = some r) : RunsP Tryd.prog 32 [.int .i64 p0] [.bool r] := by
  refine runs_w Tryd.func32 Tryd.ntmps32 rfl (rs := [.tmp 2]) rfl rfl fun w0 X hX => ?_
  refine awc_seq ?_
  refine awc_region ?_
  refine awl_v (av_assign rfl) ?_
  refine awl_nil (athen_norm (awc_seq ?_))
  refine awc_region ?_
  refine awl_v (av_move rfl) ?_
  refine awl_v (av_lss rfl rfl) ?_
  refine awl_v (av_assign rfl) ?_
  have hr := Option.some.inj hr
  subst hr
  exact awl_nil (athen_norm (awc_ret (ret_q (l' := [(2, .bool (decide (p0 < 0)))]) (wk_of hX [] 4 rfl rfl ⟨⟨_, rfl, cv0⟩, trivial⟩ trivial) rfl ⟨rfl, trivial⟩)))
theorem f85_runs {p0 : Int} {p1 : List (Int × Int × Int × Int × Str)} {r : List Int} (hr : f85 p0 p1 = some r) : RunsP Tryd.prog 33 [.int .i64 p0, .sl Y1 p1] [.sl (.int .i64) r] := by
  refine runs_w Tryd.func33 Tryd.ntmps33 rfl (rs := [.tmp 4]) rfl rfl fun w0 X hX => ?_
  refine awc_seq ?_
  refine awc_region ?_
  refine awl_v (av_assign rfl) ?_
  refine awl_nil (athen_norm (awc_seq ?_))
  refine awc_region ?_
  refine awl_v (av_move rfl) ?_
  obtain ⟨h1, hr⟩ := chk_some hr
  refine awl_op (aop_make (t := (.int .i64)) und38 zt3 rfl rfl h1 rfl ?_)
  refine awl_v (av_assign rfl) ?_
  refine awl_nil (athen_norm (awc_seq (awc_seq ?_)))
  refine awc_region ?_
  refine awl_v (av_move rfl) ?_
  refine awl_v (av_len_sl (t := Y1) rfl rfl und22 rfl) ?_
  refine awl_v (av_move rfl) ?_
  refine awl_nil (athen_norm (awc_block ?_))
  obtain ⟨o7, e8, hr⟩ := bnd_some hr
  refine awc_len (t := 1) rfl (fun hl => ?_)
  refine awc_range (S := List Int) (R := Unit) (List.length p1 : Int) (f85_b0 p1) (fun p => match p with | (i2, s4) => (⟨[(4, .nils), (5, .osl 0), (10, .sl Y1 p1), (11, .int .i64 (List.length p1 : Int)), (12, .int .i64 i2)], [(0, .sl 3 (.int .i64) s4)], 1⟩ : AS)) (fun o e st => match o with | .inr _ => False | .inl s4 => e = .exit 0 ∧ Wk X st ⟨[(4, .nils), (5, .osl 0)], [(0, .sl 3 (.int .i64) s4)], 1⟩) (len_ok hl) e8 (wk_of hX [0] 4 rfl rfl ⟨⟨_, rfl, cv0⟩, ⟨_, rfl, cv0⟩, ⟨_, rfl, cv0⟩, ⟨_, rfl, cv0⟩, ⟨_, rfl, cv0⟩, trivial⟩ ⟨cvo0, trivial⟩) ?_ ?_
  · intro e st hx
    rcases o7 with s4 | _
    · obtain ⟨rfl, hw⟩ := hx
      refine ablock_here (athen_norm ((awc_wk hw) (awc_seq ?_)))
      refine awc_region ?_
      refine awl_v (av_move rfl) ?_
      refine awl_v (av_assign rfl) ?_
      have hr := Option.some.inj hr
      subst hr
      exact awl_nil (athen_norm (awc_ret (ret_q (l' := [(4, .sl (.int .i64) s4)]) (wk_of hX [] 4 rfl rfl ⟨⟨_, rfl, cv0⟩, trivial⟩ trivial) rfl ⟨rfl, trivial⟩)))
    · exact hx.elim
  · rintro i2 s4 o ho
    refine awc_seq ?_
    refine awc_region ?_
    refine awl_v (av_lss rfl rfl) ?_
    refine awl_nil (athen_norm (awc_seq ?_))
    refine awc_cond (b := decide (i2 < (List.length p1 : Int))) rfl (fun hc9 => ?_) (fun hc9 => ?_)
    · obtain ⟨q, hr, rfl⟩ := rb_t hc9 ho
      refine awc_skip (athen_norm (awc_seq (awc_block (awc_seq ?_))))
      refine awc_region ?_
      obtain ⟨x10, e11, hr⟩ := bnd_some hr
      refine awl_v (av_ia_sl (t := Y1) (e := x10) und22 sz30 rfl rfl e11) ?_
      refine awl_v (av_load_rpN ts30 rfl rfl rfl) ?_
      refine awl_op (aop_alloc zero30 rfl ?_)
      refine awl_op (aop_store sz30 rfl rfl rfl rfl rfl rfl rfl ?_)
      refine awl_nil (athen_norm ?_)
      refine awc_region ?_
      refine awl_v (av_move rfl) ?_
      refine awl_v (av_fa_ptr fa30_0 rfl rfl) ?_
      refine awl_v (av_load_ptr ts3 rfl rfl rfl) ?_
      obtain ⟨x12, e13, hr⟩ := bnd_some hr
      refine awl_v (av_ia_osl (t := (.int .i64)) und38 sz3 rfl rfl rfl e13) ?_
      refine awl_v (av_load_ep ts3 rfl rfl rfl (ix_at e13) rfl) ?_
      refine awl_v (av_add rfl rfl) ?_
      refine awl_v (av_ia_osl (t := (.int .i64)) und38 sz3 rfl rfl rfl e13) ?_
      refine awl_op (aop_store_ep (e' := (w64 (x12 + 1))) sz3 rfl rfl rfl rfl (ix_at e13) rfl rfl rfl rfl rfl ?_)
      refine awl_nil (ablock_norm (athen_norm ?_))
      refine awc_region ?_
      refine awl_v (av_add rfl rfl) ?_
      refine awl_v (av_move rfl) ?_
      have hr := Option.some.inj hr
      subst hr
      exact awl_nil ((wk_of hX [0] 4 rfl rfl ⟨⟨_, rfl, cv0⟩, ⟨_, rfl, cv0⟩, ⟨_, rfl, cv0⟩, ⟨_, rfl, cv0⟩, ⟨_, rfl, cv0⟩, trivial⟩ ⟨cvo0, trivial⟩))
    · obtain rfl := rb_f hc9 ho
      exact awc_exit (athen_exit (⟨rfl, (wk_of hX [0] 4 rfl rfl ⟨⟨_, rfl, cv0⟩, ⟨_, rfl, cv0⟩, trivial⟩ ⟨cvo0, trivial⟩)⟩))
theorem f63_runs {p0 : Int} {p1 : List (Int × Int × Int × Int × Str)} {p2 : List Int} {r : Int} (hr : f63 p0 p1 p2 = some r) : RunsP Tryd.prog 22 [.int .i64 p0, .sl Y1 p1, .sl (.int .i64) p2] [.int .i64 r] := by
  refine runs_w Tryd.func22 Tryd.ntmps22 rfl (rs := [.tmp 6]) rfl rfl fun w0 X hX => ?_
  refine awc_seq ?_
  refine awc_region ?_
  refine awl_v (av_assign rfl) ?_
  refine awl_nil (athen_norm (awc_seq (awc_seq ?_)))
  obtain ⟨x1, e2, hr⟩ := bnd_some hr
  obtain ⟨h3, hr⟩ := chk_some hr
  refine awc_text [0, 1, 2, 6] [(true, .int .i64 p0), (true, .sl Y1 p1), (true, .bool x1), (true, .bool (!x1)), (true, .bool (!x1)), (!(!x1), .sl (.int .i64) p2), (!(!x1), .int .i64 (List.length p2 : Int)), (!(!x1), .int .i64 p0), (!(!x1), .bool (!decide ((List.length p2 : Int) = p0))), (true, .bool ((!x1) || (!decide ((List.length p2 : Int) = p0)))), (true, .bool ((!x1) || (!decide ((List.length p2 : Int) = p0)))), (!((!x1) || (!decide ((List.length p2 : Int) = p0))), .sl (.int .i64) p2), (!((!x1) || (!decide ((List.length p2 : Int) = p0))), .bool ((f75 p2 (fun y1 => f84 y1)).getD default)), (true, .bool (((!x1) || (!decide ((List.length p2 : Int) = p0))) || ((f75 p2 (fun y1 => f84 y1)).getD default)))] [[], [], [0, 1], [2], [3], [4], [5, 4], [4], [6, 7, 4], [8, 4], [9], [10], [11, 10], [12, 10]] [13] rfl rfl rfl rfl rfl ⟨?_, ?_, ?_, ?_, ?_, ?_, ?_, ?_, ?_, ?_, ?_, ?_, ?_, ?_, trivial⟩ (allT_of ⟨rfl, trivial⟩) ?_
  · exact ob_v rfl (fun hg => allT_of trivial) (fun hg => av_move rfl)
  · exact ob_v rfl (fun hg => allT_of trivial) (fun hg => av_move rfl)
  · exact ob_v rfl (fun hg => allT_of ⟨rfl, rfl, trivial⟩) (fun hg => av_call (f17_runs e2).x ent13 rfl rfl)
  · exact ob_v rfl (fun hg => allT_of ⟨rfl, trivial⟩) (fun hg => av_not rfl)
  · exact ob_v rfl (fun hg => allT_of ⟨rfl, trivial⟩) (fun hg => av_move rfl)
  · exact ob_v ⟨rfl, rfl, rfl, _, rfl, rfl⟩ (fun hg => allT_of ⟨rfl, trivial⟩) (fun hg => av_move rfl)
  · exact ob_v ⟨rfl, rfl, rfl, _, rfl, rfl⟩ (fun hg => allT_of ⟨hg, rfl, trivial⟩) (fun hg => av_len_sl (t := (.int .i64)) rfl rfl und38 rfl)
  · exact ob_v ⟨rfl, rfl, rfl, _, rfl, rfl⟩ (fun hg => allT_of ⟨rfl, trivial⟩) (fun hg => av_move rfl)
  · exact ob_v ⟨rfl, rfl, rfl, _, rfl, rfl⟩ (fun hg => allT_of ⟨hg, hg, rfl, trivial⟩) (fun hg => av_neq rfl rfl)
  · exact ob_pick (b := false) (p := !x1) (q := !decide ((List.length p2 : Int) = p0)) rfl rfl rfl (fun hg => allT_of ⟨rfl, trivial⟩) rfl rfl rfl rfl rfl
  · exact ob_v rfl (fun hg => allT_of ⟨rfl, trivial⟩) (fun hg => av_move rfl)
  · exact ob_v ⟨rfl, rfl, rfl, _, rfl, rfl⟩ (fun hg => allT_of ⟨rfl, trivial⟩) (fun hg => av_move rfl)
  · exact ob_v ⟨rfl, rfl, rfl, _, rfl, rfl⟩ (fun hg => allT_of ⟨hg, rfl, trivial⟩) (fun hg => av_callN (as' := [.sl (.int .i64) p2, .fn 32 [] []]) (f75_runs (g1 := 32) (c1s := []) (fun _ r h => f84_runs h) ⟨ent32⟩ (get_g h3 hg)).x ent30 rfl ⟨cv0, (cv3 rfl), trivial⟩ rfl)
  · exact ob_pick (b := false) (p := (!x1) || (!decide ((List.length p2 : Int) = p0))) (q := ((f75 p2 (fun y1 => f84 y1)).getD default)) rfl rfl rfl (fun hg => allT_of ⟨rfl, trivial⟩) rfl rfl rfl rfl rfl
  refine athen_norm ?_
  refine awc_cond (b := ((!x1) || (!decide ((List.length p2 : Int) = p0))) || ((f75 p2 (fun y1 => f84 y1)).getD default)) rfl (fun hc4 => ?_) (fun hc4 => ?_)
  · have hr := if_t hc4 hr
    refine awc_seq ?_
    refine awc_region ?_
    refine awl_v (av_assign rfl) ?_
    have hr := Option.some.inj hr
    subst hr
    exact awl_nil (athen_norm (awc_ret (athen_ret (ret_q (l' := [(6, .int .i64 1)]) (wk_of hX [] 4 rfl rfl ⟨⟨_, rfl, cv0⟩, trivial⟩ trivial) rfl ⟨rfl, trivial⟩))))
  · have hr := if_f hc4 hr
    refine awc_skip (athen_norm (awc_seq (awc_seq ?_)))
    refine awc_region ?_
    refine awl_v (av_move rfl) ?_
    refine awl_v (av_move rfl) ?_
    obtain ⟨x5, e6, hr⟩ := bnd_some hr
    refine awl_v (av_call (f85_runs e6).x ent33 rfl rfl) ?_
    refine awl_v (av_len_sl (t := (.int .i64)) rfl rfl und38 rfl) ?_
    refine awl_v (av_move rfl) ?_
    refine awl_nil (athen_norm (awc_block ?_))
    obtain ⟨o9, e10, hr⟩ := bnd_some hr
    refine awc_len (t := 25) rfl (fun hl => ?_)
    refine awc_range (S := Unit) (R := Unit) (List.length x5 : Int) (f63_b0 p2 x5) (fun p => match p with | (i7, ()) => (⟨[(2, .sl (.int .i64) p2), (6, .int .i64 0), (25, .sl (.int .i64) x5), (26, .int .i64 (List.length x5 : Int)), (27, .int .i64 i7)], [], 0⟩ : AS)) (fun o e st => match o with | .inl () => e = .exit 0 ∧ Wk X st ⟨[(6, .int .i64 0)], [], 0⟩ | .inr () => e = .ret ∧ Wk X st ⟨[(6, .int .i64 7)], [], 0⟩) (len_ok hl) e10 (wk_of hX [] 4 rfl rfl ⟨⟨_, rfl, cv0⟩, ⟨_, rfl, cv0⟩, ⟨_, rfl, cv0⟩, ⟨_, rfl, cv0⟩, ⟨_, rfl, cv0⟩, trivial⟩ trivial) ?_ ?_
    · intro e st hx
      rcases o9 with _ | _
      · obtain ⟨rfl, hw⟩ := hx
        refine ablock_here (athen_norm ((awc_wk hw) (awc_seq ?_)))
        refine awc_region ?_
        refine awl_v (av_assign rfl) ?_
        have hr := Option.some.inj hr
        subst hr
        exact awl_nil (athen_norm (awc_ret (ret_q (l' := [(6, .int .i64 0)]) (wk_of hX [] 4 rfl rfl ⟨⟨_, rfl, cv0⟩, trivial⟩ trivial) rfl ⟨rfl, trivial⟩)))
      · obtain ⟨rfl, hw⟩ := hx
        have hr := Option.some.inj hr
        subst hr
        exact ablock_ret (athen_ret (ret_q (l' := [(6, .int .i64 7)]) (Wk.trans hw (wk_of hX [] 4 rfl rfl ⟨⟨_, rfl, cv0⟩, trivial⟩ trivial)) rfl ⟨rfl, trivial⟩))
    · rintro i7 _ o ho
      refine awc_seq ?_
      refine awc_region ?_
      refine awl_v (av_lss rfl rfl) ?_
      refine awl_nil (athen_norm (awc_seq ?_))
      refine awc_cond (b := decide (i7 < (List.length x5 : Int))) rfl (fun hc11 => ?_) (fun hc11 => ?_)
      · obtain ⟨q, hr, rfl⟩ := rb_t hc11 ho
        refine awc_skip (athen_norm (awc_seq (awc_block (awc_seq ?_))))
        refine awc_region ?_
        refine awl_v (av_move rfl) ?_
        obtain ⟨x12, e13, hr⟩ := bnd_some hr
        refine awl_v (av_ia_sl (t := (.int .i64)) (e := x12) und38 sz3 rfl rfl e13) ?_
        refine awl_v (av_load_rp ts3 rfl) ?_
        refine awl_v (av_assign rfl) ?_
        refine awl_v (av_assign rfl) ?_
        refine awl_nil (athen_norm (awc_seq ?_))
        refine awc_region ?_
        refine awl_v (av_move rfl) ?_
        refine awl_v (av_move rfl) ?_
        obtain ⟨x14, e15, hr⟩ := bnd_some hr
        refine awl_v (av_ia_sl (t := (.int .i64)) (e := x14) und38 sz3 rfl rfl e15) ?_
        refine awl_v (av_load_rp ts3 rfl) ?_
        refine awl_v (av_move rfl) ?_
        refine awl_v (av_gtr rfl rfl) ?_
        refine awl_nil (athen_norm ?_)
        refine awc_cond (b := decide (x12 < x14)) rfl (fun hc16 => ?_) (fun hc16 => ?_)
        · have hr := if_t hc16 hr
          refine awc_seq ?_
          refine awc_region ?_
          refine awl_v (av_assign rfl) ?_
          have hr := Option.some.inj hr
          subst hr
          exact awl_nil (athen_norm (awc_ret (ablock_ret (athen_ret (⟨rfl, (wk_of hX [] 4 rfl rfl ⟨⟨_, rfl, cv0⟩, trivial⟩ trivial)⟩)))))
        · have hr := if_f hc16 hr
          refine awc_skip (ablock_norm (athen_norm ?_))
          refine awc_region ?_
          refine awl_v (av_add rfl rfl) ?_
          refine awl_v (av_move rfl) ?_
          have hr := Option.some.inj hr
          subst hr
          exact awl_nil ((wk_of hX [] 4 rfl rfl ⟨⟨_, rfl, cv0⟩, ⟨_, rfl, cv0⟩, ⟨_, rfl, cv0⟩, ⟨_, rfl, cv0⟩, ⟨_, rfl, cv0⟩, trivial⟩ trivial))
      · obtain rfl := rb_f hc11 ho
        exact awc_exit (athen_exit (⟨rfl, (wk_of hX [] 4 rfl rfl ⟨⟨_, rfl, cv0⟩, trivial⟩ trivial)⟩))
theorem f69_runs {p0 : List Int} {p1 : List Int} {p2 : Int} {r : Bool} (hr : f69 p0 p1 p2 = some r) : RunsP Tryd.prog 34 [.sl (.int .i64) p0, .sl (.int .i64) p1, .int .i64 p2] [.bool r] := by
  refine runs_w Tryd.func34 Tryd.ntmps34 rfl (rs := [.tmp 6]) rfl rfl fun w0 X hX => ?_
  refine awc_seq ?_
  refine awc_region ?_
  refine awl_v (av_assign rfl) ?_
  refine awl_nil (athen_norm (awc_seq ?_))
  obtain ⟨x1, e2, hr⟩ := bnd_some hr
  obtain ⟨x3, e4, hr⟩ := bnd_some hr
  refine awc_draw mixed [0, 1, 2] [(true, .sl (.int .i64) p0), (true, .int .i64 p2), (true, .rp [.int .i64 x1]), (true, .int .i64 x1), (true, .sl (.int .i64) p1), (true, .int .i64 p2), (true, .rp [.int .i64 x3]), (true, .int .i64 x3), (true, .bool (decide (x1 ≤ x3))), (true, .bool (decide (x1 ≤ x3)))] [[], [], [0, 1], [2], [], [], [4, 5], [6], [3, 7], [8]] [9] rfl rfl rfl rfl rfl ⟨?_, ?_, ?_, ?_, ?_, ?_, ?_, ?_, ?_, ?_, trivial⟩ (allT_of ⟨rfl, trivial⟩) ?_
  · exact ob_v rfl (fun hg => allT_of trivial) (fun hg => av_move rfl)
  · exact ob_v rfl (fun hg => allT_of trivial) (fun hg => av_move rfl)
  · exact ob_v rfl (fun hg => allT_of ⟨rfl, rfl, trivial⟩) (fun hg => av_ia_sl (t := (.int .i64)) (e := x1) und38 sz3 rfl rfl e2)
  · exact ob_v rfl (fun hg => allT_of ⟨rfl, trivial⟩) (fun hg => av_load_rp ts3 rfl)
  · exact ob_v rfl (fun hg => allT_of trivial) (fun hg => av_move rfl)
  · exact ob_v rfl (fun hg => allT_of trivial) (fun hg => av_move rfl)
  · exact ob_v rfl (fun hg => allT_of ⟨rfl, rfl, trivial⟩) (fun hg => av_ia_sl (t := (.int .i64)) (e := x3) und38 sz3 rfl rfl e4)
  · exact ob_v rfl (fun hg => allT_of ⟨rfl, trivial⟩) (fun hg => av_load_rp ts3 rfl)
  · exact ob_v rfl (fun hg => allT_of ⟨rfl, rfl, trivial⟩) (fun hg => av_leq rfl rfl)
  · exact ob_v rfl (fun hg => allT_of ⟨rfl, trivial⟩) (fun hg => av_assign rfl)
  have hr := Option.some.inj hr
  subst hr
  exact athen_norm (awc_ret (ret_q (l' := [(6, .bool (decide (x1 ≤ x3)))]) (wk_of hX [] 4 rfl rfl ⟨⟨_, rfl, cv0⟩, trivial⟩ trivial) rfl ⟨rfl, trivial⟩))
theorem f70_runs {p0 : List Int} {p1 : List Int} {r : Bool} (hr : f70 p0 p1 = some r) : RunsP Tryd.prog 15 [.sl (.int .i64) p0, .sl (.int .i64) p1] [.bool r] := by
  refine runs_w Tryd.func15 Tryd.ntmps15 rfl (rs := [.tmp 4]) rfl rfl fun w0 X hX => ?_
  refine awc_seq ?_
  refine awc_region ?_
  refine awl_v (av_assign rfl) ?_
  refine awl_nil (athen_norm (awc_seq (awc_seq ?_)))
  refine awc_region ?_
  refine awl_v (av_move rfl) ?_
  refine awl_v (av_len_sl (t := (.int .i64)) rfl rfl und38 rfl) ?_
  refine awl_v (av_move rfl) ?_
  refine awl_nil (athen_norm (awc_block ?_))
  obtain ⟨o3, e4, hr⟩ := bnd_some hr
  refine awc_len (t := 0) rfl (fun hl => ?_)
  refine awc_range (S := Unit) (R := Unit) (List.length p0 : Int) (f70_b0 p0 p1) (fun p => match p with | (i1, ()) => (⟨[(0, .sl (.int .i64) p0), (1, .sl (.int .i64) p1), (4, .bool false), (7, .int .i64 (List.length p0 : Int)), (8, .int .i64 i1)], [], 0⟩ : AS)) (fun o e st => match o with | .inl () => e = .exit 0 ∧ Wk X st ⟨[(4, .bool false)], [], 0⟩ | .inr () => e = .ret ∧ Wk X st ⟨[(4, .bool false)], [], 0⟩) (len_ok hl) e4 (wk_of hX [] 4 rfl rfl ⟨⟨_, rfl, cv0⟩, ⟨_, rfl, cv0⟩, ⟨_, rfl, cv0⟩, ⟨_, rfl, cv0⟩, ⟨_, rfl, cv0⟩, trivial⟩ trivial) ?_ ?_
  · intro e st hx
    rcases o3 with _ | _
    · obtain ⟨rfl, hw⟩ := hx
      refine ablock_here (athen_norm ((awc_wk hw) (awc_seq ?_)))
      refine awc_region ?_
      refine awl_v (av_assign rfl) ?_
      have hr := Option.some.inj hr
      subst hr
      exact awl_nil (athen_norm (awc_ret (ret_q (l' := [(4, .bool true)]) (wk_of hX [] 4 rfl rfl ⟨⟨_, rfl, cv0⟩, trivial⟩ trivial) rfl ⟨rfl, trivial⟩)))
    · obtain ⟨rfl, hw⟩ := hx
      have hr := Option.some.inj hr
      subst hr
      exact ablock_ret (athen_ret (ret_q (l' := [(4, .bool false)]) (Wk.trans hw (wk_of hX [] 4 rfl rfl ⟨⟨_, rfl, cv0⟩, trivial⟩ trivial)) rfl ⟨rfl, trivial⟩))
  · rintro i1 _ o ho
    refine awc_seq ?_
    refine awc_region ?_
    refine awl_v (av_lss rfl rfl) ?_
    refine awl_nil (athen_norm (awc_seq ?_))
    refine awc_cond (b := decide (i1 < (List.length p0 : Int))) rfl (fun hc5 => ?_) (fun hc5 => ?_)
    · obtain ⟨q, hr, rfl⟩ := rb_t hc5 ho
      refine awc_skip (athen_norm (awc_seq (awc_block (awc_seq ?_))))
      refine awc_region ?_
      refine awl_v (av_move rfl) ?_
      refine awl_v (av_assign rfl) ?_
      refine awl_nil (athen_norm (awc_seq ?_))
      obtain ⟨x6, e7, hr⟩ := bnd_some hr
      obtain ⟨x8, e9, hr⟩ := bnd_some hr
      refine awc_draw mixed [0, 1, 4, 7, 8, 5] [(true, .sl (.int .i64) p0), (true, .int .i64 i1), (true, .rp [.int .i64 x6]), (true, .int .i64 x6), (true, .sl (.int .i64) p1), (true, .int .i64 i1), (true, .rp [.int .i64 x8]), (true, .int .i64 x8), (true, .bool (decide (x8 < x6)))] [[], [], [0, 1], [2], [], [], [4, 5], [6], [3, 7]] [8] rfl rfl rfl rfl rfl ⟨?_, ?_, ?_, ?_, ?_, ?_, ?_, ?_, ?_, trivial⟩ (allT_of ⟨rfl, trivial⟩) ?_
      · exact ob_v rfl (fun hg => allT_of trivial) (fun hg => av_move rfl)
      · exact ob_v rfl (fun hg => allT_of trivial) (fun hg => av_move rfl)
      · exact ob_v rfl (fun hg => allT_of ⟨rfl, rfl, trivial⟩) (fun hg => av_ia_sl (t := (.int .i64)) (e := x6) und38 sz3 rfl rfl e7)
      · exact ob_v rfl (fun hg => allT_of ⟨rfl, trivial⟩) (fun hg => av_load_rp ts3 rfl)
      · exact ob_v rfl (fun hg => allT_of trivial) (fun hg => av_move rfl)
      · exact ob_v rfl (fun hg => allT_of trivial) (fun hg => av_move rfl)
      · exact ob_v rfl (fun hg => allT_of ⟨rfl, rfl, trivial⟩) (fun hg => av_ia_sl (t := (.int .i64)) (e := x8) und38 sz3 rfl rfl e9)
      · exact ob_v rfl (fun hg => allT_of ⟨rfl, trivial⟩) (fun hg => av_load_rp ts3 rfl)
      · exact ob_v rfl (fun hg => allT_of ⟨rfl, rfl, trivial⟩) (fun hg => av_gtr rfl rfl)
      refine athen_norm ?_
      refine awc_cond (b := decide (x8 < x6)) rfl (fun hc10 => ?_) (fun hc10 => ?_)
      · have hr := if_t hc10 hr
        refine awc_seq ?_
        refine awc_region ?_
        refine awl_v (av_assign rfl) ?_
        have hr := Option.some.inj hr
        subst hr
        exact awl_nil (athen_norm (awc_ret (ablock_ret (athen_ret (⟨rfl, (wk_of hX [] 4 rfl rfl ⟨⟨_, rfl, cv0⟩, trivial⟩ trivial)⟩)))))
      · have hr := if_f hc10 hr
        refine awc_skip (ablock_norm (athen_norm ?_))
        refine awc_region ?_
        refine awl_v (av_add rfl rfl) ?_
        refine awl_v (av_move rfl) ?_
        have hr := Option.some.inj hr
        subst hr
        exact awl_nil ((wk_of hX [] 4 rfl rfl ⟨⟨_, rfl, cv0⟩, ⟨_, rfl, cv0⟩, ⟨_, rfl, cv0⟩, ⟨_, rfl, cv0⟩, ⟨_, rfl, cv0⟩, trivial⟩ trivial))
    · obtain rfl := rb_f hc5 ho
      exact awc_exit (athen_exit (⟨rfl, (wk_of hX [] 4 rfl rfl ⟨⟨_, rfl, cv0⟩, trivial⟩ trivial)⟩))
theorem f64_runs {p0 : List (Int × Int × Int × Int × Str)} {p1 : List (List Int)} {p2 : List Int} {r : Bool} (hr : f64 p0 p1 p2 = some r) : RunsP Tryd.prog 23 [.sl Y1 p0, .sl (.slice (.int .i64)) p1, .sl (.int .i64) p2] [.bool r] := by
  refine runs_w Tryd.func23 Tryd.ntmps23 rfl (rs := [.tmp 6]) rfl rfl fun w0 X hX => ?_
  refine awc_seq ?_
  refine awc_region ?_
  refine awl_v (av_assign rfl) ?_
  refine awl_nil (athen_norm (awc_seq (awc_seq ?_)))
  refine awc_region ?_
  refine awl_v (av_move rfl) ?_
  refine awl_v (av_len_sl (t := Y1) rfl rfl und22 rfl) ?_
  refine awl_v (av_move rfl) ?_
  refine awl_nil (athen_norm (awc_block ?_))
  obtain ⟨o3, e4, hr⟩ := bnd_some hr
  refine awc_len (t := 0) rfl (fun hl => ?_)
  refine awc_range (S := Unit) (R := Unit) (List.length p0 : Int) (f64_b0 p0 p1 p2) (fun p => match p with | (i1, ()) => (⟨[(1, .sl (.slice (.int .i64)) p1), (2, .sl (.int .i64) p2), (6, .bool false), (9, .sl Y1 p0), (10, .int .i64 (List.length p0 : Int)), (11, .int .i64 i1)], [], 0⟩ : AS)) (fun o e st => match o with | .inl () => e = .exit 0 ∧ Wk X st ⟨[(6, .bool false)], [], 0⟩ | .inr () => e = .ret ∧ Wk X st ⟨[(6, .bool false)], [], 0⟩) (len_ok hl) e4 (wk_of hX [] 4 rfl rfl ⟨⟨_, rfl, cv0⟩, ⟨_, rfl, cv0⟩, ⟨_, rfl, cv0⟩, ⟨_, rfl, cv0⟩, ⟨_, rfl, cv0⟩, ⟨_, rfl, cv0⟩, trivial⟩ trivial) ?_ ?_
  · intro e st hx
    rcases o3 with _ | _
    · obtain ⟨rfl, hw⟩ := hx
      refine ablock_here (athen_norm ((awc_wk hw) (awc_seq ?_)))
      refine awc_region ?_
      refine awl_v (av_assign rfl) ?_
      have hr := Option.some.inj hr
      subst hr
      exact awl_nil (athen_norm (awc_ret (ret_q (l' := [(6, .bool true)]) (wk_of hX [] 4 rfl rfl ⟨⟨_, rfl, cv0⟩, trivial⟩ trivial) rfl ⟨rfl, trivial⟩)))
    · obtain ⟨rfl, hw⟩ := hx
      have hr := Option.some.inj hr
      subst hr
      exact ablock_ret (athen_ret (ret_q (l' := [(6, .bool false)]) (Wk.trans hw (wk_of hX [] 4 rfl rfl ⟨⟨_, rfl, cv0⟩, trivial⟩ trivial)) rfl ⟨rfl, trivial⟩))
  · rintro i1 _ o ho
    refine awc_seq ?_
    refine awc_region ?_
    refine awl_v (av_lss rfl rfl) ?_
    refine awl_nil (athen_norm (awc_seq ?_))
    refine awc_cond (b := decide (i1 < (List.length p0 : Int))) rfl (fun hc5 => ?_) (fun hc5 => ?_)
    · obtain ⟨q, hr, rfl⟩ := rb_t hc5 ho
      refine awc_skip (athen_norm (awc_seq (awc_block (awc_seq ?_))))
      refine awc_region ?_
      refine awl_v (av_move rfl) ?_
      obtain ⟨x6, e7, hr⟩ := bnd_some hr
      refine awl_v (av_ia_sl (t := Y1) (e := x6) und22 sz30 rfl rfl e7) ?_
      refine awl_v (av_load_rpN ts30 rfl rfl rfl) ?_
      refine awl_op (aop_alloc zero30 rfl ?_)
      refine awl_v (av_assign rfl) ?_
      refine awl_op (aop_store sz30 rfl rfl rfl rfl rfl rfl rfl ?_)
      refine awl_nil (athen_norm (awc_seq ?_))
      obtain ⟨x8, e9, hr⟩ := bnd_some hr
      obtain ⟨x10, e11, hr⟩ := bnd_some hr
      obtain ⟨h12, hr⟩ := chk_some hr
      obtain ⟨h13, hr⟩ := chk_some hr
      refine awc_draw mixed [1, 2, 6, 9, 10, 11, 8, 7] [(true, .sl (.slice (.int .i64)) p1), (true, .int .i64 i1), (true, .rp [.sl (.int .i64) x8]), (true, .sl (.int .i64) x8), (true, .sl (.int .i64) p2), (true, .ptr 0 0), (true, .int .i64 x6.1), (true, .bool x10), (true, .bool x10), (x10, .sl (.slice (.int .i64)) p1), (x10, .int .i64 i1), (x10, .rp [.sl (.int .i64) ((ix p1 i1).getD default)]), (x10, .sl (.int .i64) ((ix p1 i1).getD default)), (x10, .sl (.int .i64) p2), (x10, .bool ((f70 ((ix p1 i1).getD default) p2).getD default)), (x10, .bool (!((f70 ((ix p1 i1).getD default) p2).getD default))), (true, .bool (x10 && (!((f70 ((ix p1 i1).getD default) p2).getD default))))] [[], [], [0, 1], [2], [], [], [5], [3, 4, 6], [7], [8], [8], [9, 10, 8], [11, 8], [8], [12, 13, 8], [14, 8], [15, 8]] [16] rfl rfl rfl rfl rfl ⟨?_, ?_, ?_, ?_, ?_, ?_, ?_, ?_, ?_, ?_, ?_, ?_, ?_, ?_, ?_, ?_, ?_, trivial⟩ (allT_of ⟨rfl, trivial⟩) ?_
      · exact ob_v rfl (fun hg => allT_of trivial) (fun hg => av_move rfl)
      · exact ob_v rfl (fun hg => allT_of trivial) (fun hg => av_move rfl)
      · exact ob_v rfl (fun hg => allT_of ⟨rfl, rfl, trivial⟩) (fun hg => av_ia_sl (t := (.slice (.int .i64))) (e := x8) und34 sz38 rfl rfl e9)
      · exact ob_v rfl (fun hg => allT_of ⟨rfl, trivial⟩) (fun hg => av_load_rp ts38 rfl)
      · exact ob_v rfl (fun hg => allT_of trivial) (fun hg => av_move rfl)
      · exact ob_v rfl (fun hg => allT_of trivial) (fun hg => av_fa_ptr fa30_0 rfl rfl)
      · exact ob_v rfl (fun hg => allT_of ⟨rfl, trivial⟩) (fun hg => av_load_ptr ts3 rfl rfl rfl)
      · exact ob_v rfl (fun hg => allT_of ⟨rfl, rfl, rfl, trivial⟩) (fun hg => av_call (f69_runs e11).x ent34 rfl rfl)
      · exact ob_v rfl (fun hg => allT_of ⟨rfl, trivial⟩) (fun hg => av_move rfl)
      · exact ob_v ⟨rfl, rfl, rfl, _, rfl, rfl⟩ (fun hg => allT_of ⟨rfl, trivial⟩) (fun hg => av_move rfl)
      · exact ob_v ⟨rfl, rfl, rfl, _, rfl, rfl⟩ (fun hg => allT_of ⟨rfl, trivial⟩) (fun hg => av_move rfl)
      · exact ob_v ⟨rfl, rfl, rfl, _, rfl, rfl⟩ (fun hg => allT_of ⟨hg, hg, rfl, trivial⟩) (fun hg => av_ia_sl (t := (.slice (.int .i64))) (e := ((ix p1 i1).getD default)) und34 sz38 rfl rfl (get_g h12 hg))
      · exact ob_v ⟨rfl, rfl, rfl, _, rfl, rfl⟩ (fun hg => allT_of ⟨hg, rfl, trivial⟩) (fun hg => av_load_rp ts38 rfl)
      · exact ob_v ⟨rfl, rfl, rfl, _, rfl, rfl⟩ (fun hg => allT_of ⟨rfl, trivial⟩) (fun hg => av_move rfl)
      · exact ob_v ⟨rfl, rfl, rfl, _, rfl, rfl⟩ (fun hg => allT_of ⟨hg, hg, rfl, trivial⟩) (fun hg => av_call (f70_runs (get_g h13 hg)).x ent15 rfl rfl)
      · exact ob_v ⟨rfl, rfl, rfl, _, rfl, rfl⟩ (fun hg => allT_of ⟨hg, rfl, trivial⟩) (fun hg => av_not rfl)
      · exact ob_pick (b := true) (p := x10) (q := !((f70 ((ix p1 i1).getD default) p2).getD default)) rfl rfl rfl (fun hg => allT_of ⟨rfl, trivial⟩) rfl rfl rfl rfl rfl
      refine athen_norm ?_
      refine awc_cond (b := x10 && (!((f70 ((ix p1 i1).getD default) p2).getD default))) rfl (fun hc14 => ?_) (fun hc14 => ?_)
      · have hr := if_t hc14 hr
        refine awc_seq ?_
        refine awc_region ?_
        refine awl_v (av_assign rfl) ?_
        have hr := Option.some.inj hr
        subst hr
        exact awl_nil (athen_norm (awc_ret (ablock_ret (athen_ret (⟨rfl, (wk_of hX [] 4 rfl rfl ⟨⟨_, rfl, cv0⟩, trivial⟩ trivial)⟩)))))
      · have hr := if_f hc14 hr
        refine awc_skip (ablock_norm (athen_norm ?_))
        refine awc_region ?_
        refine awl_v (av_add rfl rfl) ?_
        refine awl_v (av_move rfl) ?_
        have hr := Option.some.inj hr
        subst hr
        exact awl_nil ((wk_of hX [] 4 rfl rfl ⟨⟨_, rfl, cv0⟩, ⟨_, rfl, cv0⟩, ⟨_, rfl, cv0⟩, ⟨_, rfl, cv0⟩, ⟨_, rfl, cv0⟩, ⟨_, rfl, cv0⟩, trivial⟩ trivial))
    · obtain rfl := rb_f hc5 ho
      exact awc_exit (athen_exit (⟨rfl, (wk_of hX [] 4 rfl rfl ⟨⟨_, rfl, cv0⟩, trivial⟩ trivial)⟩))
end Go.Ab

