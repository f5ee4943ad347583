/- Lemmas for a law of the seat: what functions of the program do, each stated as a contract of its own (module TA3). -/
import Derived.Test.YtjagcoeihmhabaaLayT
import Derived.Test.YtjagcoeihmhabaaChecked
import Derived.Test.YtjagcoeihmhabaaTA2
set_option linter.unusedVariables false
set_option maxRecDepth 100000
namespace Go.Ab
open Go.RowKit Go.Shelf Go.Proofs Go.Eng
theorem ent44 : Enters Try.prog 44 := enters_of Try.func44 (by kernel_rfl) rfl
theorem ent24 : Enters Try.prog 24 := enters_of Try.func24 (by kernel_rfl) rfl
theorem ent19 : Enters Try.prog 19 := enters_of Try.func19 (by kernel_rfl) rfl
theorem ent32 : Enters Try.prog 32 := enters_of Try.func32 (by kernel_rfl) rfl
theorem ent13 : Enters Try.prog 13 := enters_of Try.func13 (by kernel_rfl) rfl
theorem ent79 : Enters Try.prog 79 := enters_of Try.func79 (by kernel_rfl) rfl
theorem ent45 : Enters Try.prog 45 := enters_of Try.func45 (by kernel_rfl) rfl
theorem ent46 : Enters Try.prog 46 := enters_of Try.func46 (by kernel_rfl) rfl
theorem ent47 : Enters Try.prog 47 := enters_of Try.func47 (by kernel_rfl) rfl
theorem ent8 : Enters Try.prog 8 := enters_of Try.func8 (by kernel_rfl) rfl
theorem ent9 : Enters Try.prog 9 := enters_of Try.func9 (by kernel_rfl) rfl
theorem ent10 : Enters Try.prog 10 := enters_of Try.func10 (by kernel_rfl) rfl
theorem ent11 : Enters Try.prog 11 := enters_of Try.func11 (by kernel_rfl) rfl
theorem ent12 : Enters Try.prog 12 := enters_of Try.func12 (by kernel_rfl) rfl
def f13_b0 (p0 : List Int) (p1 : List Int) (i2 : Int) (s : Unit) : Option (Unit ⊕ Unit) :=
(ix p0 i2).bind fun x7 =>
(ix p1 i2).bind fun x9 =>
bif !decide (x7 = x9) then
(some (.inr ()))
else
(some (.inl ()))
def f13 (p0 : List Int) (p1 : List Int) : Option (Bool) :=
bif !decide ((List.length p0 : Int) = (List.length p1 : Int)) then
(some false)
else
((rng (f13_b0 p0 p1) (Int.toNat (List.length p0 : Int)) 0 ()).bind fun o4 => match o4 with
| .inl () => (some true)
| .inr () => (some false))
theorem f13_runs {p0 : List Int} {p1 : List Int} {r : Bool} (hr : f13 p0 p1 = some r) : RunsP Try.prog 13 [.sl (.int .i64) p0, .sl (.int .i64) p1] [.bool r] := by
  refine runs_w Try.func13 Try.ntmps13 rfl (rs := [.tmp 4]) rfl rfl fun w0 X hX => ?_
  refine awc_seq ?_
  refine awc_region ?_
  refine awl_v (av_assign rfl) ?_
  refine awl_nil (athen_norm (awc_seq (awc_seq ?_)))
  refine awc_region ?_
  refine awl_v (av_move rfl) ?_
  refine awl_v (av_len_sl (t := (.int .i64)) rfl rfl und22 rfl) ?_
  refine awl_v (av_move rfl) ?_
  refine awl_v (av_len_sl (t := (.int .i64)) rfl rfl und22 rfl) ?_
  refine awl_v (av_neq rfl rfl) ?_
  refine awl_nil (athen_norm ?_)
  refine awc_cond (b := !decide ((List.length p0 : Int) = (List.length p1 : Int))) rfl (fun hc1 => ?_) (fun hc1 => ?_)
  · have hr := if_t hc1 hr
    refine awc_seq ?_
    refine awc_region ?_
    refine awl_v (av_assign rfl) ?_
    have hr := Option.some.inj hr
    subst hr
    exact awl_nil (athen_norm (awc_ret (athen_ret (ret_q (l' := [(4, .bool false)]) (wk_of hX [] 4 rfl rfl ⟨⟨_, rfl, cv0⟩, trivial⟩ trivial) rfl ⟨rfl, trivial⟩))))
  · have hr := if_f hc1 hr
    refine awc_skip (athen_norm (awc_seq (awc_seq ?_)))
    refine awc_region ?_
    refine awl_v (av_move rfl) ?_
    refine awl_v (av_len_sl (t := (.int .i64)) rfl rfl und22 rfl) ?_
    refine awl_v (av_move rfl) ?_
    refine awl_nil (athen_norm (awc_block ?_))
    obtain ⟨o4, e5, hr⟩ := bnd_some hr
    refine awc_len (t := 0) rfl (fun hl => ?_)
    refine awc_range (S := Unit) (R := Unit) (List.length p0 : Int) (f13_b0 p0 p1) (fun p => match p with | (i2, ()) => (⟨[(0, .sl (.int .i64) p0), (1, .sl (.int .i64) p1), (4, .bool false), (12, .int .i64 (List.length p0 : Int)), (13, .int .i64 i2)], [], 0⟩ : AS)) (fun o e st => match o with | .inl () => e = .exit 0 ∧ Wk X st ⟨[(4, .bool false)], [], 0⟩ | .inr () => e = .ret ∧ Wk X st ⟨[(4, .bool false)], [], 0⟩) (len_ok hl) e5 (wk_of hX [] 4 rfl rfl ⟨⟨_, rfl, cv0⟩, ⟨_, rfl, cv0⟩, ⟨_, rfl, cv0⟩, ⟨_, rfl, cv0⟩, ⟨_, rfl, cv0⟩, trivial⟩ trivial) ?_ ?_
    · intro e st hx
      rcases o4 with _ | _
      · obtain ⟨rfl, hw⟩ := hx
        refine ablock_here (athen_norm ((awc_wk hw) (awc_seq ?_)))
        refine awc_region ?_
        refine awl_v (av_assign rfl) ?_
        have hr := Option.some.inj hr
        subst hr
        exact awl_nil (athen_norm (awc_ret (ret_q (l' := [(4, .bool true)]) (wk_of hX [] 4 rfl rfl ⟨⟨_, rfl, cv0⟩, trivial⟩ trivial) rfl ⟨rfl, trivial⟩)))
      · obtain ⟨rfl, hw⟩ := hx
        have hr := Option.some.inj hr
        subst hr
        exact ablock_ret (athen_ret (ret_q (l' := [(4, .bool false)]) (Wk.trans hw (wk_of hX [] 4 rfl rfl ⟨⟨_, rfl, cv0⟩, trivial⟩ trivial)) rfl ⟨rfl, trivial⟩))
    · rintro i2 _ o ho
      refine awc_seq ?_
      refine awc_region ?_
      refine awl_v (av_lss rfl rfl) ?_
      refine awl_nil (athen_norm (awc_seq ?_))
      refine awc_cond (b := decide (i2 < (List.length p0 : Int))) rfl (fun hc6 => ?_) (fun hc6 => ?_)
      · obtain ⟨q, hr, rfl⟩ := rb_t hc6 ho
        refine awc_skip (athen_norm (awc_seq (awc_block (awc_seq ?_))))
        refine awc_region ?_
        refine awl_v (av_move rfl) ?_
        refine awl_v (av_assign rfl) ?_
        refine awl_nil (athen_norm (awc_seq ?_))
        obtain ⟨x7, e8, hr⟩ := bnd_some hr
        obtain ⟨x9, e10, hr⟩ := bnd_some hr
        refine awc_draw mixed [0, 1, 4, 12, 13, 5] [(true, .sl (.int .i64) p0), (true, .int .i64 i2), (true, .rp [.int .i64 x7]), (true, .int .i64 x7), (true, .sl (.int .i64) p1), (true, .int .i64 i2), (true, .rp [.int .i64 x9]), (true, .int .i64 x9), (true, .bool (!decide (x7 = x9)))] [[], [], [0, 1], [2], [], [], [4, 5], [6], [3, 7]] [8] rfl rfl rfl rfl rfl ⟨?_, ?_, ?_, ?_, ?_, ?_, ?_, ?_, ?_, trivial⟩ (allT_of ⟨rfl, trivial⟩) ?_
        · exact ob_v rfl (fun hg => allT_of trivial) (fun hg => av_move rfl)
        · exact ob_v rfl (fun hg => allT_of trivial) (fun hg => av_move rfl)
        · exact ob_v rfl (fun hg => allT_of ⟨rfl, rfl, trivial⟩) (fun hg => av_ia_sl (t := (.int .i64)) (e := x7) und22 sz3 rfl rfl e8)
        · exact ob_v rfl (fun hg => allT_of ⟨rfl, trivial⟩) (fun hg => av_load_rp ts3 rfl)
        · exact ob_v rfl (fun hg => allT_of trivial) (fun hg => av_move rfl)
        · exact ob_v rfl (fun hg => allT_of trivial) (fun hg => av_move rfl)
        · exact ob_v rfl (fun hg => allT_of ⟨rfl, rfl, trivial⟩) (fun hg => av_ia_sl (t := (.int .i64)) (e := x9) und22 sz3 rfl rfl e10)
        · exact ob_v rfl (fun hg => allT_of ⟨rfl, trivial⟩) (fun hg => av_load_rp ts3 rfl)
        · exact ob_v rfl (fun hg => allT_of ⟨rfl, rfl, trivial⟩) (fun hg => av_neq rfl rfl)
        refine athen_norm ?_
        refine awc_cond (b := !decide (x7 = x9)) rfl (fun hc11 => ?_) (fun hc11 => ?_)
        · have hr := if_t hc11 hr
          refine awc_seq ?_
          refine awc_region ?_
          refine awl_v (av_assign rfl) ?_
          have hr := Option.some.inj hr
          subst hr
          exact awl_nil (athen_norm (awc_ret (ablock_ret (athen_ret (⟨rfl, (wk_of hX [] 4 rfl rfl ⟨⟨_, rfl, cv0⟩, trivial⟩ trivial)⟩)))))
        · have hr := if_f hc11 hr
          refine awc_skip (ablock_norm (athen_norm ?_))
          refine awc_region ?_
          refine awl_v (av_add rfl rfl) ?_
          refine awl_v (av_move rfl) ?_
          have hr := Option.some.inj hr
          subst hr
          exact awl_nil ((wk_of hX [] 4 rfl rfl ⟨⟨_, rfl, cv0⟩, ⟨_, rfl, cv0⟩, ⟨_, rfl, cv0⟩, ⟨_, rfl, cv0⟩, ⟨_, rfl, cv0⟩, trivial⟩ trivial))
      · obtain rfl := rb_f hc6 ho
        exact awc_exit (athen_exit (⟨rfl, (wk_of hX [] 4 rfl rfl ⟨⟨_, rfl, cv0⟩, trivial⟩ trivial)⟩))
def f8  : Option (Bool) :=
(f44).bind fun x1 =>
(f24 2 x1 0 3).bind fun x3 =>
(f44).bind fun x5 =>
(f19 2 x5).bind fun x7 =>
(f44).bind fun x9 =>
(f32 2 x9 [0, 2]).bind fun x11 =>
bif (!((((decide (x3.2 = 0)) && x3.1) && (decide (x7.2 = 0))) && (decide ((List.length x7.1 : Int) = 4))) || Option.isSome (ix x7.1 3)) then
bif (!((((decide (x3.2 = 0)) && x3.1) && (decide (x7.2 = 0))) && (decide ((List.length x7.1 : Int) = 4))) || Option.isSome (f13 ((ix x7.1 3).getD default) [2, 2])) then
some (((((((decide (x3.2 = 0)) && x3.1) && (decide (x7.2 = 0))) && (decide ((List.length x7.1 : Int) = 4))) && ((f13 ((ix x7.1 3).getD default) [2, 2]).getD default)) && (decide (x11.2 = 0))) && (!x11.1))
else none
else none
theorem f8_runs {r : Bool} (hr : f8 = some r) : RunsP Try.prog 8 [] [.bool r] := by
  refine runs_w Try.func8 Try.ntmps8 rfl (rs := [.tmp 0]) rfl rfl fun w0 X hX => ?_
  refine awc_seq ?_
  refine awc_region ?_
  refine awl_v (av_assign rfl) ?_
  refine awl_nil (athen_norm (awc_seq ?_))
  refine awc_region ?_
  obtain ⟨x1, e2, hr⟩ := bnd_some hr
  refine awl_v (av_call (f44_runs e2) ent44 rfl rfl) ?_
  obtain ⟨x3, e4, hr⟩ := bnd_some hr
  refine awl_v (av_call (f24_runs e4) ent24 rfl rfl) ?_
  refine awl_v (av_move rfl) ?_
  refine awl_v (av_extract rfl rfl) ?_
  refine awl_v (av_extract rfl rfl) ?_
  refine awl_v (av_assign rfl) ?_
  refine awl_v (av_assign rfl) ?_
  refine awl_nil (athen_norm (awc_seq ?_))
  refine awc_region ?_
  obtain ⟨x5, e6, hr⟩ := bnd_some hr
  refine awl_v (av_call (f44_runs e6) ent44 rfl rfl) ?_
  obtain ⟨x7, e8, hr⟩ := bnd_some hr
  refine awl_v (av_call (f19_runs e8) ent19 rfl rfl) ?_
  refine awl_v (av_move rfl) ?_
  refine awl_v (av_extract rfl rfl) ?_
  refine awl_v (av_extract rfl rfl) ?_
  refine awl_v (av_assign rfl) ?_
  refine awl_v (av_assign rfl) ?_
  refine awl_nil (athen_norm (awc_seq ?_))
  refine awc_region ?_
  obtain ⟨x9, e10, hr⟩ := bnd_some hr
  refine awl_v (av_call (f44_runs e10) ent44 rfl rfl) ?_
  refine awl_v (av_buildSlice (t := (.int .i64)) (qs := [(0, [.int .i64 0]), (1, [.int .i64 2])]) (ys := [0, 2]) bs22 rfl rfl rfl rfl rfl rfl rfl rfl) ?_
  obtain ⟨x11, e12, hr⟩ := bnd_some hr
  refine awl_v (av_call (f32_runs e12) ent32 rfl rfl) ?_
  refine awl_v (av_move rfl) ?_
  refine awl_v (av_extract rfl rfl) ?_
  refine awl_v (av_extract rfl rfl) ?_
  refine awl_v (av_assign rfl) ?_
  refine awl_v (av_assign rfl) ?_
  refine awl_nil (athen_norm (awc_seq ?_))
  obtain ⟨h13, hr⟩ := chk_some hr
  obtain ⟨h14, hr⟩ := chk_some hr
  refine awc_text [1, 2, 3, 4, 5, 6] [(true, .int .i64 x3.2), (true, .bool (decide (x3.2 = 0))), (true, .bool (decide (x3.2 = 0))), (decide (x3.2 = 0), .bool x3.1), (true, .bool ((decide (x3.2 = 0)) && x3.1)), (true, .bool ((decide (x3.2 = 0)) && x3.1)), ((decide (x3.2 = 0)) && x3.1, .int .i64 x7.2), ((decide (x3.2 = 0)) && x3.1, .bool (decide (x7.2 = 0))), (true, .bool (((decide (x3.2 = 0)) && x3.1) && (decide (x7.2 = 0)))), (true, .bool (((decide (x3.2 = 0)) && x3.1) && (decide (x7.2 = 0)))), (((decide (x3.2 = 0)) && x3.1) && (decide (x7.2 = 0)), .sl (.slice (.int .i64)) x7.1), (((decide (x3.2 = 0)) && x3.1) && (decide (x7.2 = 0)), .int .i64 (List.length x7.1 : Int)), (((decide (x3.2 = 0)) && x3.1) && (decide (x7.2 = 0)), .bool (decide ((List.length x7.1 : Int) = 4))), (true, .bool ((((decide (x3.2 = 0)) && x3.1) && (decide (x7.2 = 0))) && (decide ((List.length x7.1 : Int) = 4)))), (true, .bool ((((decide (x3.2 = 0)) && x3.1) && (decide (x7.2 = 0))) && (decide ((List.length x7.1 : Int) = 4)))), ((((decide (x3.2 = 0)) && x3.1) && (decide (x7.2 = 0))) && (decide ((List.length x7.1 : Int) = 4)), .sl (.slice (.int .i64)) x7.1), ((((decide (x3.2 = 0)) && x3.1) && (decide (x7.2 = 0))) && (decide ((List.length x7.1 : Int) = 4)), .rp [.sl (.int .i64) ((ix x7.1 3).getD default)]), ((((decide (x3.2 = 0)) && x3.1) && (decide (x7.2 = 0))) && (decide ((List.length x7.1 : Int) = 4)), .sl (.int .i64) ((ix x7.1 3).getD default)), ((((decide (x3.2 = 0)) && x3.1) && (decide (x7.2 = 0))) && (decide ((List.length x7.1 : Int) = 4)), .sl (.int .i64) [2, 2]), ((((decide (x3.2 = 0)) && x3.1) && (decide (x7.2 = 0))) && (decide ((List.length x7.1 : Int) = 4)), .bool ((f13 ((ix x7.1 3).getD default) [2, 2]).getD default)), (true, .bool (((((decide (x3.2 = 0)) && x3.1) && (decide (x7.2 = 0))) && (decide ((List.length x7.1 : Int) = 4))) && ((f13 ((ix x7.1 3).getD default) [2, 2]).getD default))), (true, .bool (((((decide (x3.2 = 0)) && x3.1) && (decide (x7.2 = 0))) && (decide ((List.length x7.1 : Int) = 4))) && ((f13 ((ix x7.1 3).getD default) [2, 2]).getD default))), (((((decide (x3.2 = 0)) && x3.1) && (decide (x7.2 = 0))) && (decide ((List.length x7.1 : Int) = 4))) && ((f13 ((ix x7.1 3).getD default) [2, 2]).getD default), .int .i64 x11.2), (((((decide (x3.2 = 0)) && x3.1) && (decide (x7.2 = 0))) && (decide ((List.length x7.1 : Int) = 4))) && ((f13 ((ix x7.1 3).getD default) [2, 2]).getD default), .bool (decide (x11.2 = 0))), (true, .bool ((((((decide (x3.2 = 0)) && x3.1) && (decide (x7.2 = 0))) && (decide ((List.length x7.1 : Int) = 4))) && ((f13 ((ix x7.1 3).getD default) [2, 2]).getD default)) && (decide (x11.2 = 0)))), (true, .bool ((((((decide (x3.2 = 0)) && x3.1) && (decide (x7.2 = 0))) && (decide ((List.length x7.1 : Int) = 4))) && ((f13 ((ix x7.1 3).getD default) [2, 2]).getD default)) && (decide (x11.2 = 0)))), ((((((decide (x3.2 = 0)) && x3.1) && (decide (x7.2 = 0))) && (decide ((List.length x7.1 : Int) = 4))) && ((f13 ((ix x7.1 3).getD default) [2, 2]).getD default)) && (decide (x11.2 = 0)), .bool x11.1), ((((((decide (x3.2 = 0)) && x3.1) && (decide (x7.2 = 0))) && (decide ((List.length x7.1 : Int) = 4))) && ((f13 ((ix x7.1 3).getD default) [2, 2]).getD default)) && (decide (x11.2 = 0)), .bool (!x11.1)), (true, .bool (((((((decide (x3.2 = 0)) && x3.1) && (decide (x7.2 = 0))) && (decide ((List.length x7.1 : Int) = 4))) && ((f13 ((ix x7.1 3).getD default) [2, 2]).getD default)) && (decide (x11.2 = 0))) && (!x11.1))), (true, .bool (((((((decide (x3.2 = 0)) && x3.1) && (decide (x7.2 = 0))) && (decide ((List.length x7.1 : Int) = 4))) && ((f13 ((ix x7.1 3).getD default) [2, 2]).getD default)) && (decide (x11.2 = 0))) && (!x11.1)))] [[], [0], [1], [2], [3, 2], [4], [5], [6, 5], [7, 5], [8], [9], [10, 9], [11, 9], [12, 9], [13], [14], [15, 14], [16, 14], [14], [17, 18, 14], [19, 14], [20], [21], [22, 21], [23, 21], [24], [25], [26, 25], [27, 25], [28]] [29] rfl rfl rfl rfl rfl ⟨?_, ?_, ?_, ?_, ?_, ?_, ?_, ?_, ?_, ?_, ?_, ?_, ?_, ?_, ?_, ?_, ?_, ?_, ?_, ?_, ?_, ?_, ?_, ?_, ?_, ?_, ?_, ?_, ?_, ?_, trivial⟩ (allT_of ⟨rfl, trivial⟩) ?_
  · exact ob_v rfl (fun hg => allT_of trivial) (fun hg => av_move rfl)
  · exact ob_v rfl (fun hg => allT_of ⟨rfl, trivial⟩) (fun hg => av_eql rfl rfl)
  · exact ob_v rfl (fun hg => allT_of ⟨rfl, trivial⟩) (fun hg => av_move rfl)
  · exact ob_v ⟨rfl, rfl, rfl, _, rfl, rfl⟩ (fun hg => allT_of ⟨rfl, trivial⟩) (fun hg => av_move rfl)
  · exact ob_pick (b := true) (p := decide (x3.2 = 0)) (q := x3.1) rfl rfl rfl (fun hg => allT_of ⟨rfl, trivial⟩) rfl rfl rfl rfl rfl
  · exact ob_v rfl (fun hg => allT_of ⟨rfl, trivial⟩) (fun hg => av_move rfl)
  · exact ob_v ⟨rfl, rfl, rfl, _, rfl, rfl⟩ (fun hg => allT_of ⟨rfl, trivial⟩) (fun hg => av_move rfl)
  · exact ob_v ⟨rfl, rfl, rfl, _, rfl, rfl⟩ (fun hg => allT_of ⟨hg, rfl, trivial⟩) (fun hg => av_eql rfl rfl)
  · exact ob_pick (b := true) (p := (decide (x3.2 = 0)) && x3.1) (q := decide (x7.2 = 0)) rfl rfl rfl (fun hg => allT_of ⟨rfl, trivial⟩) rfl rfl rfl rfl rfl
  · exact ob_v rfl (fun hg => allT_of ⟨rfl, trivial⟩) (fun hg => av_move rfl)
  · exact ob_v ⟨rfl, rfl, rfl, _, rfl, rfl⟩ (fun hg => allT_of ⟨rfl, trivial⟩) (fun hg => av_move rfl)
  · exact ob_v ⟨rfl, rfl, rfl, _, rfl, rfl⟩ (fun hg => allT_of ⟨hg, rfl, trivial⟩) (fun hg => av_len_sl (t := (.slice (.int .i64))) rfl rfl und34 rfl)
  · exact ob_v ⟨rfl, rfl, rfl, _, rfl, rfl⟩ (fun hg => allT_of ⟨hg, rfl, trivial⟩) (fun hg => av_eql rfl rfl)
  · exact ob_pick (b := true) (p := ((decide (x3.2 = 0)) && x3.1) && (decide (x7.2 = 0))) (q := decide ((List.length x7.1 : Int) = 4)) rfl rfl rfl (fun hg => allT_of ⟨rfl, trivial⟩) rfl rfl rfl rfl rfl
  · exact ob_v rfl (fun hg => allT_of ⟨rfl, trivial⟩) (fun hg => av_move rfl)
  · exact ob_v ⟨rfl, rfl, rfl, _, rfl, rfl⟩ (fun hg => allT_of ⟨rfl, trivial⟩) (fun hg => av_move rfl)
  · exact ob_v ⟨rfl, rfl, rfl, _, rfl, rfl⟩ (fun hg => allT_of ⟨hg, rfl, trivial⟩) (fun hg => av_ia_sl (t := (.slice (.int .i64))) (e := ((ix x7.1 3).getD default)) und34 sz22 rfl rfl (get_g h13 hg))
  · exact ob_v ⟨rfl, rfl, rfl, _, rfl, rfl⟩ (fun hg => allT_of ⟨hg, rfl, trivial⟩) (fun hg => av_load_rp ts22 rfl)
  · exact ob_v ⟨rfl, rfl, rfl, _, rfl, rfl⟩ (fun hg => allT_of ⟨rfl, trivial⟩) (fun hg => av_buildSlice (t := (.int .i64)) (qs := [(0, [.int .i64 2]), (1, [.int .i64 2])]) (ys := [2, 2]) bs22 rfl rfl rfl rfl rfl rfl rfl rfl)
  · exact ob_v ⟨rfl, rfl, rfl, _, rfl, rfl⟩ (fun hg => allT_of ⟨hg, hg, rfl, trivial⟩) (fun hg => av_call (f13_runs (get_g h14 hg)) ent13 rfl rfl)
  · exact ob_pick (b := true) (p := (((decide (x3.2 = 0)) && x3.1) && (decide (x7.2 = 0))) && (decide ((List.length x7.1 : Int) = 4))) (q := ((f13 ((ix x7.1 3).getD default) [2, 2]).getD default)) rfl rfl rfl (fun hg => allT_of ⟨rfl, trivial⟩) rfl rfl rfl rfl rfl
  · exact ob_v rfl (fun hg => allT_of ⟨rfl, trivial⟩) (fun hg => av_move rfl)
  · exact ob_v ⟨rfl, rfl, rfl, _, rfl, rfl⟩ (fun hg => allT_of ⟨rfl, trivial⟩) (fun hg => av_move rfl)
  · exact ob_v ⟨rfl, rfl, rfl, _, rfl, rfl⟩ (fun hg => allT_of ⟨hg, rfl, trivial⟩) (fun hg => av_eql rfl rfl)
  · exact ob_pick (b := true) (p := ((((decide (x3.2 = 0)) && x3.1) && (decide (x7.2 = 0))) && (decide ((List.length x7.1 : Int) = 4))) && ((f13 ((ix x7.1 3).getD default) [2, 2]).getD default)) (q := decide (x11.2 = 0)) rfl rfl rfl (fun hg => allT_of ⟨rfl, trivial⟩) rfl rfl rfl rfl rfl
  · exact ob_v rfl (fun hg => allT_of ⟨rfl, trivial⟩) (fun hg => av_move rfl)
  · exact ob_v ⟨rfl, rfl, rfl, _, rfl, rfl⟩ (fun hg => allT_of ⟨rfl, trivial⟩) (fun hg => av_move rfl)
  · exact ob_v ⟨rfl, rfl, rfl, _, rfl, rfl⟩ (fun hg => allT_of ⟨hg, rfl, trivial⟩) (fun hg => av_not rfl)
  · exact ob_pick (b := true) (p := (((((decide (x3.2 = 0)) && x3.1) && (decide (x7.2 = 0))) && (decide ((List.length x7.1 : Int) = 4))) && ((f13 ((ix x7.1 3).getD default) [2, 2]).getD default)) && (decide (x11.2 = 0))) (q := !x11.1) rfl rfl rfl (fun hg => allT_of ⟨rfl, trivial⟩) rfl rfl rfl rfl rfl
  · exact ob_v rfl (fun hg => allT_of ⟨rfl, trivial⟩) (fun hg => av_assign rfl)
  have hr := Option.some.inj hr
  subst hr
  exact athen_norm (awc_ret (ret_q (l' := [(0, .bool (((((((decide (x3.2 = 0)) && x3.1) && (decide (x7.2 = 0))) && (decide ((List.length x7.1 : Int) = 4))) && ((f13 ((ix x7.1 3).getD default) [2, 2]).getD default)) && (decide (x11.2 = 0))) && (!x11.1)))]) (wk_of hX [] 4 rfl rfl ⟨⟨_, rfl, cv0⟩, trivial⟩ trivial) rfl ⟨rfl, trivial⟩))
def f79 (p0 : Int) : Option (Bool) :=
some (decide (p0 < 0))
theorem f79_runs {p0 : Int} {r : Bool} (hr : f79 p0 = some r) : RunsP Try.prog 79 [.int .i64 p0] [.bool r] := by
  refine runs_w Try.func79 Try.ntmps79 rfl (rs := [.tmp 2]) rfl rfl fun w0 X hX => ?_
  refine awc_seq ?_
  refine awc_region ?_
  refine awl_v (av_assign rfl) ?_
  refine awl_nil (athen_norm (awc_seq ?_))
  refine awc_region ?_
  refine awl_v (av_move rfl) ?_
  refine awl_v (av_lss rfl rfl) ?_
  refine awl_v (av_assign rfl) ?_
  have hr := Option.some.inj hr
  subst hr
  exact awl_nil (athen_norm (awc_ret (ret_q (l' := [(2, .bool (decide (p0 < 0)))]) (wk_of hX [] 4 rfl rfl ⟨⟨_, rfl, cv0⟩, trivial⟩ trivial) rfl ⟨rfl, trivial⟩)))
def f45 (p0 : List Int) (p1 : List Int) : Option (Bool) :=
bif (!(((decide ((List.length p0 : Int) = (List.length p1 : Int))) && (decide (1 ≤ (List.length p0 : Int)))) && (decide ((List.length p0 : Int) ≤ 16))) || Option.isSome (f75 p0 (fun y1 => f79 y1))) then
bif (!((((decide ((List.length p0 : Int) = (List.length p1 : Int))) && (decide (1 ≤ (List.length p0 : Int)))) && (decide ((List.length p0 : Int) ≤ 16))) && (!((f75 p0 (fun y1 => f79 y1)).getD default))) || Option.isSome (f75 p1 (fun y1 => f79 y1))) then
some (((((decide ((List.length p0 : Int) = (List.length p1 : Int))) && (decide (1 ≤ (List.length p0 : Int)))) && (decide ((List.length p0 : Int) ≤ 16))) && (!((f75 p0 (fun y1 => f79 y1)).getD default))) && (!((f75 p1 (fun y1 => f79 y1)).getD default)))
else none
else none
theorem f45_runs {p0 : List Int} {p1 : List Int} {r : Bool} (hr : f45 p0 p1 = some r) : RunsP Try.prog 45 [.sl (.int .i64) p0, .sl (.int .i64) p1] [.bool r] := by
  refine runs_w Try.func45 Try.ntmps45 rfl (rs := [.tmp 4]) rfl rfl fun w0 X hX => ?_
  refine awc_seq ?_
  refine awc_region ?_
  refine awl_v (av_assign rfl) ?_
  refine awl_nil (athen_norm (awc_seq ?_))
  refine awc_region ?_
  refine awl_v (av_assign rfl) ?_
  refine awl_nil (athen_norm (awc_seq ?_))
  obtain ⟨h1, hr⟩ := chk_some hr
  obtain ⟨h2, hr⟩ := chk_some hr
  refine awc_text [0, 1, 5] [(true, .sl (.int .i64) p0), (true, .int .i64 (List.length p0 : Int)), (true, .sl (.int .i64) p1), (true, .int .i64 (List.length p1 : Int)), (true, .bool (decide ((List.length p0 : Int) = (List.length p1 : Int)))), (true, .bool (decide ((List.length p0 : Int) = (List.length p1 : Int)))), (decide ((List.length p0 : Int) = (List.length p1 : Int)), .sl (.int .i64) p0), (decide ((List.length p0 : Int) = (List.length p1 : Int)), .int .i64 (List.length p0 : Int)), (decide ((List.length p0 : Int) = (List.length p1 : Int)), .bool (decide (1 ≤ (List.length p0 : Int)))), (true, .bool ((decide ((List.length p0 : Int) = (List.length p1 : Int))) && (decide (1 ≤ (List.length p0 : Int))))), (true, .bool ((decide ((List.length p0 : Int) = (List.length p1 : Int))) && (decide (1 ≤ (List.length p0 : Int))))), ((decide ((List.length p0 : Int) = (List.length p1 : Int))) && (decide (1 ≤ (List.length p0 : Int))), .sl (.int .i64) p0), ((decide ((List.length p0 : Int) = (List.length p1 : Int))) && (decide (1 ≤ (List.length p0 : Int))), .int .i64 (List.length p0 : Int)), ((decide ((List.length p0 : Int) = (List.length p1 : Int))) && (decide (1 ≤ (List.length p0 : Int))), .bool (decide ((List.length p0 : Int) ≤ 16))), (true, .bool (((decide ((List.length p0 : Int) = (List.length p1 : Int))) && (decide (1 ≤ (List.length p0 : Int)))) && (decide ((List.length p0 : Int) ≤ 16)))), (true, .bool (((decide ((List.length p0 : Int) = (List.length p1 : Int))) && (decide (1 ≤ (List.length p0 : Int)))) && (decide ((List.length p0 : Int) ≤ 16)))), (((decide ((List.length p0 : Int) = (List.length p1 : Int))) && (decide (1 ≤ (List.length p0 : Int)))) && (decide ((List.length p0 : Int) ≤ 16)), .sl (.int .i64) p0), (((decide ((List.length p0 : Int) = (List.length p1 : Int))) && (decide (1 ≤ (List.length p0 : Int)))) && (decide ((List.length p0 : Int) ≤ 16)), .fn 79 [] []), (((decide ((List.length p0 : Int) = (List.length p1 : Int))) && (decide (1 ≤ (List.length p0 : Int)))) && (decide ((List.length p0 : Int) ≤ 16)), .bool ((f75 p0 (fun y1 => f79 y1)).getD default)), (((decide ((List.length p0 : Int) = (List.length p1 : Int))) && (decide (1 ≤ (List.length p0 : Int)))) && (decide ((List.length p0 : Int) ≤ 16)), .bool (!((f75 p0 (fun y1 => f79 y1)).getD default))), (true, .bool ((((decide ((List.length p0 : Int) = (List.length p1 : Int))) && (decide (1 ≤ (List.length p0 : Int)))) && (decide ((List.length p0 : Int) ≤ 16))) && (!((f75 p0 (fun y1 => f79 y1)).getD default)))), (true, .bool ((((decide ((List.length p0 : Int) = (List.length p1 : Int))) && (decide (1 ≤ (List.length p0 : Int)))) && (decide ((List.length p0 : Int) ≤ 16))) && (!((f75 p0 (fun y1 => f79 y1)).getD default)))), ((((decide ((List.length p0 : Int) = (List.length p1 : Int))) && (decide (1 ≤ (List.length p0 : Int)))) && (decide ((List.length p0 : Int) ≤ 16))) && (!((f75 p0 (fun y1 => f79 y1)).getD default)), .sl (.int .i64) p1), ((((decide ((List.length p0 : Int) = (List.length p1 : Int))) && (decide (1 ≤ (List.length p0 : Int)))) && (decide ((List.length p0 : Int) ≤ 16))) && (!((f75 p0 (fun y1 => f79 y1)).getD default)), .fn 79 [] []), ((((decide ((List.length p0 : Int) = (List.length p1 : Int))) && (decide (1 ≤ (List.length p0 : Int)))) && (decide ((List.length p0 : Int) ≤ 16))) && (!((f75 p0 (fun y1 => f79 y1)).getD default)), .bool ((f75 p1 (fun y1 => f79 y1)).getD default)), ((((decide ((List.length p0 : Int) = (List.length p1 : Int))) && (decide (1 ≤ (List.length p0 : Int)))) && (decide ((List.length p0 : Int) ≤ 16))) && (!((f75 p0 (fun y1 => f79 y1)).getD default)), .bool (!((f75 p1 (fun y1 => f79 y1)).getD default))), (true, .bool (((((decide ((List.length p0 : Int) = (List.length p1 : Int))) && (decide (1 ≤ (List.length p0 : Int)))) && (decide ((List.length p0 : Int) ≤ 16))) && (!((f75 p0 (fun y1 => f79 y1)).getD default))) && (!((f75 p1 (fun y1 => f79 y1)).getD default)))), (true, .bool (((((decide ((List.length p0 : Int) = (List.length p1 : Int))) && (decide (1 ≤ (List.length p0 : Int)))) && (decide ((List.length p0 : Int) ≤ 16))) && (!((f75 p0 (fun y1 => f79 y1)).getD default))) && (!((f75 p1 (fun y1 => f79 y1)).getD default))))] [[], [0], [], [2], [1, 3], [4], [5], [6, 5], [7, 5], [8, 5], [9], [10], [11, 10], [12, 10], [13, 10], [14], [15], [15], [16, 17, 15], [18, 15], [19, 15], [20], [21], [21], [22, 23, 21], [24, 21], [25, 21], [26]] [27] rfl rfl rfl rfl rfl ⟨?_, ?_, ?_, ?_, ?_, ?_, ?_, ?_, ?_, ?_, ?_, ?_, ?_, ?_, ?_, ?_, ?_, ?_, ?_, ?_, ?_, ?_, ?_, ?_, ?_, ?_, ?_, ?_, trivial⟩ (allT_of ⟨rfl, trivial⟩) ?_
  · exact ob_v rfl (fun hg => allT_of trivial) (fun hg => av_move rfl)
  · exact ob_v rfl (fun hg => allT_of ⟨rfl, trivial⟩) (fun hg => av_len_sl (t := (.int .i64)) rfl rfl und22 rfl)
  · exact ob_v rfl (fun hg => allT_of trivial) (fun hg => av_move rfl)
  · exact ob_v rfl (fun hg => allT_of ⟨rfl, trivial⟩) (fun hg => av_len_sl (t := (.int .i64)) rfl rfl und22 rfl)
  · exact ob_v rfl (fun hg => allT_of ⟨rfl, rfl, trivial⟩) (fun hg => av_eql rfl rfl)
  · exact ob_v rfl (fun hg => allT_of ⟨rfl, trivial⟩) (fun hg => av_move rfl)
  · exact ob_v ⟨rfl, rfl, rfl, _, rfl, rfl⟩ (fun hg => allT_of ⟨rfl, trivial⟩) (fun hg => av_move rfl)
  · exact ob_v ⟨rfl, rfl, rfl, _, rfl, rfl⟩ (fun hg => allT_of ⟨hg, rfl, trivial⟩) (fun hg => av_len_sl (t := (.int .i64)) rfl rfl und22 rfl)
  · exact ob_v ⟨rfl, rfl, rfl, _, rfl, rfl⟩ (fun hg => allT_of ⟨hg, rfl, trivial⟩) (fun hg => av_geq rfl rfl)
  · exact ob_pick (b := true) (p := decide ((List.length p0 : Int) = (List.length p1 : Int))) (q := decide (1 ≤ (List.length p0 : Int))) rfl rfl rfl (fun hg => allT_of ⟨rfl, trivial⟩) rfl rfl rfl rfl rfl
  · exact ob_v rfl (fun hg => allT_of ⟨rfl, trivial⟩) (fun hg => av_move rfl)
  · exact ob_v ⟨rfl, rfl, rfl, _, rfl, rfl⟩ (fun hg => allT_of ⟨rfl, trivial⟩) (fun hg => av_move rfl)
  · exact ob_v ⟨rfl, rfl, rfl, _, rfl, rfl⟩ (fun hg => allT_of ⟨hg, rfl, trivial⟩) (fun hg => av_len_sl (t := (.int .i64)) rfl rfl und22 rfl)
  · exact ob_v ⟨rfl, rfl, rfl, _, rfl, rfl⟩ (fun hg => allT_of ⟨hg, rfl, trivial⟩) (fun hg => av_leq rfl rfl)
  · exact ob_pick (b := true) (p := (decide ((List.length p0 : Int) = (List.length p1 : Int))) && (decide (1 ≤ (List.length p0 : Int)))) (q := decide ((List.length p0 : Int) ≤ 16)) rfl rfl rfl (fun hg => allT_of ⟨rfl, trivial⟩) rfl rfl rfl rfl rfl
  · exact ob_v rfl (fun hg => allT_of ⟨rfl, trivial⟩) (fun hg => av_move rfl)
  · exact ob_v ⟨rfl, rfl, rfl, _, rfl, rfl⟩ (fun hg => allT_of ⟨rfl, trivial⟩) (fun hg => av_move rfl)
  · exact ob_v ⟨rfl, rfl, rfl, _, rfl, rfl⟩ (fun hg => allT_of ⟨rfl, trivial⟩) (fun hg => av_move rfl)
  · exact ob_v ⟨rfl, rfl, rfl, _, rfl, rfl⟩ (fun hg => allT_of ⟨hg, hg, rfl, trivial⟩) (fun hg => av_callN (as' := [.sl (.int .i64) p0, .fn 79 [] []]) (f75_runs (g1 := 79) (c1s := []) (fun _ r h => f79_runs h) ⟨ent79⟩ (get_g h1 hg)) ent75 rfl ⟨cv0, (cv3 rfl), trivial⟩ rfl)
  · exact ob_v ⟨rfl, rfl, rfl, _, rfl, rfl⟩ (fun hg => allT_of ⟨hg, rfl, trivial⟩) (fun hg => av_not rfl)
  · exact ob_pick (b := true) (p := ((decide ((List.length p0 : Int) = (List.length p1 : Int))) && (decide (1 ≤ (List.length p0 : Int)))) && (decide ((List.length p0 : Int) ≤ 16))) (q := !((f75 p0 (fun y1 => f79 y1)).getD default)) rfl rfl rfl (fun hg => allT_of ⟨rfl, trivial⟩) rfl rfl rfl rfl rfl
  · exact ob_v rfl (fun hg => allT_of ⟨rfl, trivial⟩) (fun hg => av_move rfl)
  · exact ob_v ⟨rfl, rfl, rfl, _, rfl, rfl⟩ (fun hg => allT_of ⟨rfl, trivial⟩) (fun hg => av_move rfl)
  · exact ob_v ⟨rfl, rfl, rfl, _, rfl, rfl⟩ (fun hg => allT_of ⟨rfl, trivial⟩) (fun hg => av_move rfl)
  · exact ob_v ⟨rfl, rfl, rfl, _, rfl, rfl⟩ (fun hg => allT_of ⟨hg, hg, rfl, trivial⟩) (fun hg => av_callN (as' := [.sl (.int .i64) p1, .fn 79 [] []]) (f75_runs (g1 := 79) (c1s := []) (fun _ r h => f79_runs h) ⟨ent79⟩ (get_g h2 hg)) ent75 rfl ⟨cv0, (cv3 rfl), trivial⟩ rfl)
  · exact ob_v ⟨rfl, rfl, rfl, _, rfl, rfl⟩ (fun hg => allT_of ⟨hg, rfl, trivial⟩) (fun hg => av_not rfl)
  · exact ob_pick (b := true) (p := (((decide ((List.length p0 : Int) = (List.length p1 : Int))) && (decide (1 ≤ (List.length p0 : Int)))) && (decide ((List.length p0 : Int) ≤ 16))) && (!((f75 p0 (fun y1 => f79 y1)).getD default))) (q := !((f75 p1 (fun y1 => f79 y1)).getD default)) rfl rfl rfl (fun hg => allT_of ⟨rfl, trivial⟩) rfl rfl rfl rfl rfl
  · exact ob_v rfl (fun hg => allT_of ⟨rfl, trivial⟩) (fun hg => av_assign rfl)
  have hr := Option.some.inj hr
  subst hr
  exact athen_norm (awc_ret (ret_q (l' := [(4, .bool (((((decide ((List.length p0 : Int) = (List.length p1 : Int))) && (decide (1 ≤ (List.length p0 : Int)))) && (decide ((List.length p0 : Int) ≤ 16))) && (!((f75 p0 (fun y1 => f79 y1)).getD default))) && (!((f75 p1 (fun y1 => f79 y1)).getD default))))]) (wk_of hX [] 4 rfl rfl ⟨⟨_, rfl, cv0⟩, trivial⟩ trivial) rfl ⟨rfl, trivial⟩))
def f9_b0 (p0 : List Int) (p1 : List Int) (i4 : Int) (s : Bool × Bool) : Option ((Bool × Bool) ⊕ Unit) :=
match s with
| (s5, s6) => (bif (!(!s5) || Option.isSome (ix p0 i4)) then
bif (!(!s5) || Option.isSome (ix p1 i4)) then
bif (!(!s6) || Option.isSome (ix p0 i4)) then
bif (!(!s6) || Option.isSome (ix p1 i4)) then
some (.inl (s5 || (decide (((ix p0 i4).getD default) < ((ix p1 i4).getD default))), s6 || (decide (((ix p1 i4).getD default) < ((ix p0 i4).getD default)))))
else none
else none
else none
else none)
def f9 (p0 : List Int) (p1 : List Int) : Option (Int × Int) :=
(f45 p0 p1).bind fun x1 =>
bif !x1 then
(some (0, 1))
else
((rng (f9_b0 p0 p1) (Int.toNat (List.length p0 : Int)) 0 (false, false)).bind fun o11 => match o11 with
| .inl (s5, s6) => (bif s5 && s6 then
(some (2, 0))
else
(bif s5 then
(some ((-1), 0))
else
(bif s6 then
(some (1, 0))
else
(some (0, 0)))))
| .inr _ => none)
theorem f9_runs {p0 : List Int} {p1 : List Int} {r : Int × Int} (hr : f9 p0 p1 = some r) : RunsP Try.prog 9 [.sl (.int .i64) p0, .sl (.int .i64) p1] [.int .i64 r.1, .int .i64 r.2] := by
  refine runs_w Try.func9 Try.ntmps9 rfl (rs := [.tmp 4, .tmp 5]) rfl rfl fun w0 X hX => ?_
  refine awc_seq ?_
  refine awc_region ?_
  refine awl_v (av_assign rfl) ?_
  refine awl_v (av_assign rfl) ?_
  refine awl_nil (athen_norm (awc_seq (awc_seq ?_)))
  refine awc_region ?_
  refine awl_v (av_move rfl) ?_
  refine awl_v (av_move rfl) ?_
  obtain ⟨x1, e2, hr⟩ := bnd_some hr
  refine awl_v (av_call (f45_runs e2) ent45 rfl rfl) ?_
  refine awl_v (av_not rfl) ?_
  refine awl_nil (athen_norm ?_)
  refine awc_cond (b := !x1) rfl (fun hc3 => ?_) (fun hc3 => ?_)
  · have hr := if_t hc3 hr
    refine awc_seq ?_
    refine awc_region ?_
    refine awl_v (av_assign rfl) ?_
    refine awl_v (av_assign rfl) ?_
    have hr := Option.some.inj hr
    subst hr
    exact awl_nil (athen_norm (awc_ret (athen_ret (ret_q (l' := [(4, .int .i64 0), (5, .int .i64 1)]) (wk_of hX [] 4 rfl rfl ⟨⟨_, rfl, cv0⟩, ⟨_, rfl, cv0⟩, trivial⟩ trivial) rfl ⟨rfl, rfl, trivial⟩))))
  · have hr := if_f hc3 hr
    refine awc_skip (athen_norm (awc_seq ?_))
    refine awc_region ?_
    refine awl_v (av_assign rfl) ?_
    refine awl_v (av_assign rfl) ?_
    refine awl_nil (athen_norm (awc_seq (awc_seq ?_)))
    refine awc_region ?_
    refine awl_v (av_move rfl) ?_
    refine awl_v (av_len_sl (t := (.int .i64)) rfl rfl und22 rfl) ?_
    refine awl_v (av_move rfl) ?_
    refine awl_nil (athen_norm (awc_block ?_))
    obtain ⟨o11, e12, hr⟩ := bnd_some hr
    refine awc_len (t := 0) rfl (fun hl => ?_)
    refine awc_range (S := Bool × Bool) (R := Unit) (List.length p0 : Int) (f9_b0 p0 p1) (fun p => match p with | (i4, s5, s6) => (⟨[(0, .sl (.int .i64) p0), (1, .sl (.int .i64) p1), (4, .int .i64 0), (5, .int .i64 0), (6, .bool s5), (7, .bool s6), (14, .int .i64 (List.length p0 : Int)), (15, .int .i64 i4)], [], 0⟩ : AS)) (fun o e st => match o with | .inr _ => False | .inl (s5, s6) => e = .exit 0 ∧ Wk X st ⟨[(4, .int .i64 0), (5, .int .i64 0), (6, .bool s5), (7, .bool s6)], [], 0⟩) (len_ok hl) e12 (wk_of hX [] 4 rfl rfl ⟨⟨_, rfl, cv0⟩, ⟨_, rfl, cv0⟩, ⟨_, rfl, cv0⟩, ⟨_, rfl, cv0⟩, ⟨_, rfl, cv0⟩, ⟨_, rfl, cv0⟩, ⟨_, rfl, cv0⟩, ⟨_, rfl, cv0⟩, trivial⟩ trivial) ?_ ?_
    · intro e st hx
      rcases o11 with ⟨s5, s6⟩ | _
      · obtain ⟨rfl, hw⟩ := hx
        refine ablock_here (athen_norm ((awc_wk hw) (awc_seq (awc_block (awc_seq ?_)))))
        refine awc_text [4, 5, 6, 7] [(true, .bool s5), (true, .bool s5), (s5, .bool s6), (true, .bool (s5 && s6)), (true, .bool (s5 && s6))] [[], [0], [1], [2, 1], [3]] [4] rfl rfl rfl rfl rfl ⟨?_, ?_, ?_, ?_, ?_, trivial⟩ (allT_of ⟨rfl, trivial⟩) ?_
        · exact ob_v rfl (fun hg => allT_of trivial) (fun hg => av_move rfl)
        · exact ob_v rfl (fun hg => allT_of ⟨rfl, trivial⟩) (fun hg => av_move rfl)
        · exact ob_v ⟨rfl, rfl, rfl, _, rfl, rfl⟩ (fun hg => allT_of ⟨rfl, trivial⟩) (fun hg => av_move rfl)
        · exact ob_pick (b := true) (p := s5) (q := s6) rfl rfl rfl (fun hg => allT_of ⟨rfl, trivial⟩) rfl rfl rfl rfl rfl
        · exact ob_v rfl (fun hg => allT_of ⟨rfl, trivial⟩) (fun hg => av_assign rfl)
        refine athen_norm ?_
        refine awc_cond (b := s5 && s6) rfl (fun hc13 => ?_) (fun hc13 => ?_)
        · have hr := if_t hc13 hr
          refine awc_seq ?_
          refine awc_region ?_
          refine awl_v (av_assign rfl) ?_
          refine awl_v (av_assign rfl) ?_
          have hr := Option.some.inj hr
          subst hr
          exact awl_nil (athen_norm (awc_ret (ablock_ret (athen_ret (ret_q (l' := [(4, .int .i64 2), (5, .int .i64 0)]) (wk_of hX [] 4 rfl rfl ⟨⟨_, rfl, cv0⟩, ⟨_, rfl, cv0⟩, trivial⟩ trivial) rfl ⟨rfl, rfl, trivial⟩)))))
        · have hr := if_f hc13 hr
          refine awc_seq ?_
          refine awc_region ?_
          refine awl_v (av_move rfl) ?_
          refine awl_v (av_assign rfl) ?_
          refine awl_nil (athen_norm ?_)
          refine awc_cond (b := s5) rfl (fun hc14 => ?_) (fun hc14 => ?_)
          · have hr := if_t hc14 hr
            refine awc_seq ?_
            refine awc_region ?_
            refine awl_v (av_assign rfl) ?_
            refine awl_v (av_assign rfl) ?_
            have hr := Option.some.inj hr
            subst hr
            exact awl_nil (athen_norm (awc_ret (ablock_ret (athen_ret (ret_q (l' := [(4, .int .i64 (-1)), (5, .int .i64 0)]) (wk_of hX [] 4 rfl rfl ⟨⟨_, rfl, cv0⟩, ⟨_, rfl, cv0⟩, trivial⟩ trivial) rfl ⟨rfl, rfl, trivial⟩)))))
          · have hr := if_f hc14 hr
            refine awc_seq ?_
            refine awc_region ?_
            refine awl_v (av_move rfl) ?_
            refine awl_v (av_assign rfl) ?_
            refine awl_nil (athen_norm ?_)
            refine awc_cond (b := s6) rfl (fun hc15 => ?_) (fun hc15 => ?_)
            · have hr := if_t hc15 hr
              refine awc_seq ?_
              refine awc_region ?_
              refine awl_v (av_assign rfl) ?_
              refine awl_v (av_assign rfl) ?_
              have hr := Option.some.inj hr
              subst hr
              exact awl_nil (athen_norm (awc_ret (ablock_ret (athen_ret (ret_q (l' := [(4, .int .i64 1), (5, .int .i64 0)]) (wk_of hX [] 4 rfl rfl ⟨⟨_, rfl, cv0⟩, ⟨_, rfl, cv0⟩, trivial⟩ trivial) rfl ⟨rfl, rfl, trivial⟩)))))
            · have hr := if_f hc15 hr
              refine awc_skip (ablock_norm (athen_norm (awc_seq ?_)))
              refine awc_region ?_
              refine awl_v (av_assign rfl) ?_
              refine awl_v (av_assign rfl) ?_
              have hr := Option.some.inj hr
              subst hr
              exact awl_nil (athen_norm (awc_ret (ret_q (l' := [(4, .int .i64 0), (5, .int .i64 0)]) (wk_of hX [] 4 rfl rfl ⟨⟨_, rfl, cv0⟩, ⟨_, rfl, cv0⟩, trivial⟩ trivial) rfl ⟨rfl, rfl, trivial⟩)))
      · exact hx.elim
    · rintro i4 ⟨s5, s6⟩ o ho
      refine awc_seq ?_
      refine awc_region ?_
      refine awl_v (av_lss rfl rfl) ?_
      refine awl_nil (athen_norm (awc_seq ?_))
      refine awc_cond (b := decide (i4 < (List.length p0 : Int))) rfl (fun hc16 => ?_) (fun hc16 => ?_)
      · obtain ⟨q, hr, rfl⟩ := rb_t hc16 ho
        refine awc_skip (athen_norm (awc_seq (awc_block (awc_seq ?_))))
        refine awc_region ?_
        refine awl_v (av_move rfl) ?_
        refine awl_v (av_assign rfl) ?_
        refine awl_nil (athen_norm ?_)
        obtain ⟨h17, hr⟩ := chk_some hr
        obtain ⟨h18, hr⟩ := chk_some hr
        obtain ⟨h19, hr⟩ := chk_some hr
        obtain ⟨h20, hr⟩ := chk_some hr
        refine awc_drawX mixed  [0, 1, 4, 5, 14, 15, 8] [6, 7] [[6, 0, 1, 4, 5, 14, 15, 8], [0, 1, 4, 5, 14, 15, 8], [0, 1, 4, 5, 14, 15, 8], [0, 1, 4, 5, 14, 15, 8], [0, 1, 4, 5, 14, 15, 8], [0, 1, 4, 5, 14, 15, 8], [0, 1, 4, 5, 14, 15, 8], [0, 1, 4, 5, 14, 15, 8], [0, 1, 4, 5, 14, 15, 8], [0, 1, 4, 5, 14, 15, 8], [0, 1, 4, 5, 14, 15, 8], [0, 1, 4, 5, 14, 15, 8], [7, 0, 1, 4, 5, 14, 15, 8], [0, 1, 4, 5, 14, 15, 8], [0, 1, 4, 5, 14, 15, 8], [0, 1, 4, 5, 14, 15, 8], [0, 1, 4, 5, 14, 15, 8], [0, 1, 4, 5, 14, 15, 8], [0, 1, 4, 5, 14, 15, 8], [0, 1, 4, 5, 14, 15, 8], [0, 1, 4, 5, 14, 15, 8], [0, 1, 4, 5, 14, 15, 8], [0, 1, 4, 5, 14, 15, 8], [0, 1, 4, 5, 14, 15, 8], [0, 1, 4, 5, 14, 15, 8], [0, 1, 4, 5, 14, 15, 8]] [(true, .bool s5), (true, .bool s5), (!s5, .sl (.int .i64) p0), (!s5, .int .i64 i4), (!s5, .rp [.int .i64 ((ix p0 i4).getD default)]), (!s5, .int .i64 ((ix p0 i4).getD default)), (!s5, .sl (.int .i64) p1), (!s5, .int .i64 i4), (!s5, .rp [.int .i64 ((ix p1 i4).getD default)]), (!s5, .int .i64 ((ix p1 i4).getD default)), (!s5, .bool (decide (((ix p0 i4).getD default) < ((ix p1 i4).getD default)))), (true, .bool (s5 || (decide (((ix p0 i4).getD default) < ((ix p1 i4).getD default))))), (true, .bool s6), (true, .bool s6), (!s6, .sl (.int .i64) p0), (!s6, .int .i64 i4), (!s6, .rp [.int .i64 ((ix p0 i4).getD default)]), (!s6, .int .i64 ((ix p0 i4).getD default)), (!s6, .sl (.int .i64) p1), (!s6, .int .i64 i4), (!s6, .rp [.int .i64 ((ix p1 i4).getD default)]), (!s6, .int .i64 ((ix p1 i4).getD default)), (!s6, .bool (decide (((ix p1 i4).getD default) < ((ix p0 i4).getD default)))), (true, .bool (s6 || (decide (((ix p1 i4).getD default) < ((ix p0 i4).getD default))))), (true, .bool (s5 || (decide (((ix p0 i4).getD default) < ((ix p1 i4).getD default))))), (true, .bool (s6 || (decide (((ix p1 i4).getD default) < ((ix p0 i4).getD default)))))] [[], [0], [1], [1], [2, 3, 1], [4, 1], [1], [1], [6, 7, 1], [8, 1], [5, 9, 1], [10, 1], [], [12], [13], [13], [14, 15, 13], [16, 13], [13], [13], [18, 19, 13], [20, 13], [17, 21, 13], [22, 13], [11], [23]] [24, 25] rfl rfl rfl rfl rfl rfl ⟨?_, ?_, ?_, ?_, ?_, ?_, ?_, ?_, ?_, ?_, ?_, ?_, ?_, ?_, ?_, ?_, ?_, ?_, ?_, ?_, ?_, ?_, ?_, ?_, ?_, ?_, trivial⟩ (allT_of ⟨rfl, rfl, trivial⟩) ?_
        · exact ob_v rfl (fun hg => allT_of trivial) (fun hg => av_move rfl)
        · exact ob_v rfl (fun hg => allT_of ⟨rfl, trivial⟩) (fun hg => av_move rfl)
        · exact ob_v ⟨rfl, rfl, rfl, _, rfl, rfl⟩ (fun hg => allT_of ⟨rfl, trivial⟩) (fun hg => av_move rfl)
        · exact ob_v ⟨rfl, rfl, rfl, _, rfl, rfl⟩ (fun hg => allT_of ⟨rfl, trivial⟩) (fun hg => av_move rfl)
        · exact ob_v ⟨rfl, rfl, rfl, _, rfl, rfl⟩ (fun hg => allT_of ⟨hg, hg, rfl, trivial⟩) (fun hg => av_ia_sl (t := (.int .i64)) (e := ((ix p0 i4).getD default)) und22 sz3 rfl rfl (get_g h17 hg))
        · exact ob_v ⟨rfl, rfl, rfl, _, rfl, rfl⟩ (fun hg => allT_of ⟨hg, rfl, trivial⟩) (fun hg => av_load_rp ts3 rfl)
        · exact ob_v ⟨rfl, rfl, rfl, _, rfl, rfl⟩ (fun hg => allT_of ⟨rfl, trivial⟩) (fun hg => av_move rfl)
        · exact ob_v ⟨rfl, rfl, rfl, _, rfl, rfl⟩ (fun hg => allT_of ⟨rfl, trivial⟩) (fun hg => av_move rfl)
        · exact ob_v ⟨rfl, rfl, rfl, _, rfl, rfl⟩ (fun hg => allT_of ⟨hg, hg, rfl, trivial⟩) (fun hg => av_ia_sl (t := (.int .i64)) (e := ((ix p1 i4).getD default)) und22 sz3 rfl rfl (get_g h18 hg))
        · exact ob_v ⟨rfl, rfl, rfl, _, rfl, rfl⟩ (fun hg => allT_of ⟨hg, rfl, trivial⟩) (fun hg => av_load_rp ts3 rfl)
        · exact ob_v ⟨rfl, rfl, rfl, _, rfl, rfl⟩ (fun hg => allT_of ⟨hg, hg, rfl, trivial⟩) (fun hg => av_lss rfl rfl)
        · exact ob_pick (b := false) (p := s5) (q := decide (((ix p0 i4).getD default) < ((ix p1 i4).getD default))) rfl rfl rfl (fun hg => allT_of ⟨rfl, trivial⟩) rfl rfl rfl rfl rfl
        · exact ob_v rfl (fun hg => allT_of trivial) (fun hg => av_move rfl)
        · exact ob_v rfl (fun hg => allT_of ⟨rfl, trivial⟩) (fun hg => av_move rfl)
        · exact ob_v ⟨rfl, rfl, rfl, _, rfl, rfl⟩ (fun hg => allT_of ⟨rfl, trivial⟩) (fun hg => av_move rfl)
        · exact ob_v ⟨rfl, rfl, rfl, _, rfl, rfl⟩ (fun hg => allT_of ⟨rfl, trivial⟩) (fun hg => av_move rfl)
        · exact ob_v ⟨rfl, rfl, rfl, _, rfl, rfl⟩ (fun hg => allT_of ⟨hg, hg, rfl, trivial⟩) (fun hg => av_ia_sl (t := (.int .i64)) (e := ((ix p0 i4).getD default)) und22 sz3 rfl rfl (get_g h19 hg))
        · exact ob_v ⟨rfl, rfl, rfl, _, rfl, rfl⟩ (fun hg => allT_of ⟨hg, rfl, trivial⟩) (fun hg => av_load_rp ts3 rfl)
        · exact ob_v ⟨rfl, rfl, rfl, _, rfl, rfl⟩ (fun hg => allT_of ⟨rfl, trivial⟩) (fun hg => av_move rfl)
        · exact ob_v ⟨rfl, rfl, rfl, _, rfl, rfl⟩ (fun hg => allT_of ⟨rfl, trivial⟩) (fun hg => av_move rfl)
        · exact ob_v ⟨rfl, rfl, rfl, _, rfl, rfl⟩ (fun hg => allT_of ⟨hg, hg, rfl, trivial⟩) (fun hg => av_ia_sl (t := (.int .i64)) (e := ((ix p1 i4).getD default)) und22 sz3 rfl rfl (get_g h20 hg))
        · exact ob_v ⟨rfl, rfl, rfl, _, rfl, rfl⟩ (fun hg => allT_of ⟨hg, rfl, trivial⟩) (fun hg => av_load_rp ts3 rfl)
        · exact ob_v ⟨rfl, rfl, rfl, _, rfl, rfl⟩ (fun hg => allT_of ⟨hg, hg, rfl, trivial⟩) (fun hg => av_gtr rfl rfl)
        · exact ob_pick (b := false) (p := s6) (q := decide (((ix p1 i4).getD default) < ((ix p0 i4).getD default))) rfl rfl rfl (fun hg => allT_of ⟨rfl, trivial⟩) rfl rfl rfl rfl rfl
        · exact ob_v rfl (fun hg => allT_of ⟨rfl, trivial⟩) (fun hg => av_assign rfl)
        · exact ob_v rfl (fun hg => allT_of ⟨rfl, trivial⟩) (fun hg => av_assign rfl)
        refine ablock_norm (athen_norm ?_)
        refine awc_region ?_
        refine awl_v (av_add rfl rfl) ?_
        refine awl_v (av_move rfl) ?_
        have hr := Option.some.inj hr
        subst hr
        exact awl_nil ((wk_of hX [] 4 rfl rfl ⟨⟨_, rfl, cv0⟩, ⟨_, rfl, cv0⟩, ⟨_, rfl, cv0⟩, ⟨_, rfl, cv0⟩, ⟨_, rfl, cv0⟩, ⟨_, rfl, cv0⟩, ⟨_, rfl, cv0⟩, ⟨_, rfl, cv0⟩, trivial⟩ trivial))
      · obtain rfl := rb_f hc16 ho
        exact awc_exit (athen_exit (⟨rfl, (wk_of hX [] 4 rfl rfl ⟨⟨_, rfl, cv0⟩, ⟨_, rfl, cv0⟩, ⟨_, rfl, cv0⟩, ⟨_, rfl, cv0⟩, trivial⟩ trivial)⟩))
def f46 (p0 : List Int) : Option (Bool) :=
some ((decide (1 ≤ (List.length p0 : Int))) && (decide ((List.length p0 : Int) ≤ 16)))
theorem f46_runs {p0 : List Int} {r : Bool} (hr : f46 p0 = some r) : RunsP Try.prog 46 [.sl (.int .i64) p0] [.bool r] := by
  refine runs_w Try.func46 Try.ntmps46 rfl (rs := [.tmp 2]) rfl rfl fun w0 X hX => ?_
  refine awc_seq ?_
  refine awc_region ?_
  refine awl_v (av_assign rfl) ?_
  refine awl_nil (athen_norm (awc_seq ?_))
  refine awc_text [0] [(true, .sl (.int .i64) p0), (true, .int .i64 (List.length p0 : Int)), (true, .bool (decide (1 ≤ (List.length p0 : Int)))), (true, .bool (decide (1 ≤ (List.length p0 : Int)))), (decide (1 ≤ (List.length p0 : Int)), .sl (.int .i64) p0), (decide (1 ≤ (List.length p0 : Int)), .int .i64 (List.length p0 : Int)), (decide (1 ≤ (List.length p0 : Int)), .bool (decide ((List.length p0 : Int) ≤ 16))), (true, .bool ((decide (1 ≤ (List.length p0 : Int))) && (decide ((List.length p0 : Int) ≤ 16)))), (true, .bool ((decide (1 ≤ (List.length p0 : Int))) && (decide ((List.length p0 : Int) ≤ 16))))] [[], [0], [1], [2], [3], [4, 3], [5, 3], [6, 3], [7]] [8] rfl rfl rfl rfl rfl ⟨?_, ?_, ?_, ?_, ?_, ?_, ?_, ?_, ?_, trivial⟩ (allT_of ⟨rfl, trivial⟩) ?_
  · exact ob_v rfl (fun hg => allT_of trivial) (fun hg => av_move rfl)
  · exact ob_v rfl (fun hg => allT_of ⟨rfl, trivial⟩) (fun hg => av_len_sl (t := (.int .i64)) rfl rfl und22 rfl)
  · exact ob_v rfl (fun hg => allT_of ⟨rfl, trivial⟩) (fun hg => av_geq rfl rfl)
  · exact ob_v rfl (fun hg => allT_of ⟨rfl, trivial⟩) (fun hg => av_move rfl)
  · exact ob_v ⟨rfl, rfl, rfl, _, rfl, rfl⟩ (fun hg => allT_of ⟨rfl, trivial⟩) (fun hg => av_move rfl)
  · exact ob_v ⟨rfl, rfl, rfl, _, rfl, rfl⟩ (fun hg => allT_of ⟨hg, rfl, trivial⟩) (fun hg => av_len_sl (t := (.int .i64)) rfl rfl und22 rfl)
  · exact ob_v ⟨rfl, rfl, rfl, _, rfl, rfl⟩ (fun hg => allT_of ⟨hg, rfl, trivial⟩) (fun hg => av_leq rfl rfl)
  · exact ob_pick (b := true) (p := decide (1 ≤ (List.length p0 : Int))) (q := decide ((List.length p0 : Int) ≤ 16)) rfl rfl rfl (fun hg => allT_of ⟨rfl, trivial⟩) rfl rfl rfl rfl rfl
  · exact ob_v rfl (fun hg => allT_of ⟨rfl, trivial⟩) (fun hg => av_assign rfl)
  have hr := Option.some.inj hr
  subst hr
  exact athen_norm (awc_ret (ret_q (l' := [(2, .bool ((decide (1 ≤ (List.length p0 : Int))) && (decide ((List.length p0 : Int) ≤ 16))))]) (wk_of hX [] 4 rfl rfl ⟨⟨_, rfl, cv0⟩, trivial⟩ trivial) rfl ⟨rfl, trivial⟩))
def f47_b1 (x6 : List Int) (i9 : Int) (s : Unit) : Option (Unit ⊕ Unit) :=
(ix x6 i9).bind fun x14 =>
bif decide (x14 < 0) then
(some (.inr ()))
else
(some (.inl ()))
def f47_b0 (p0 : Int) (p1 : List (List Int)) (i1 : Int) (s : Unit) : Option (Unit ⊕ Unit) :=
(ix p1 i1).bind fun x6 =>
bif !decide ((List.length x6 : Int) = p0) then
(some (.inr ()))
else
((rng (f47_b1 x6) (Int.toNat (List.length x6 : Int)) 0 ()).bind fun o11 => match o11 with
| .inl () => (some (.inl ()))
| .inr () => (some (.inr ())))
def f47 (p0 : Int) (p1 : List (List Int)) : Option (Bool) :=
(rng (f47_b0 p0 p1) (Int.toNat (List.length p1 : Int)) 0 ()).bind fun o3 => match o3 with
| .inl () => (some true)
| .inr () => (some false)
theorem f47_runs {p0 : Int} {p1 : List (List Int)} {r : Bool} (hr : f47 p0 p1 = some r) : RunsP Try.prog 47 [.int .i64 p0, .sl (.slice (.int .i64)) p1] [.bool r] := by
  refine runs_w Try.func47 Try.ntmps47 rfl (rs := [.tmp 4]) rfl rfl fun w0 X hX => ?_
  refine awc_seq ?_
  refine awc_region ?_
  refine awl_v (av_assign rfl) ?_
  refine awl_nil (athen_norm (awc_seq (awc_seq ?_)))
  refine awc_region ?_
  refine awl_v (av_move rfl) ?_
  refine awl_v (av_len_sl (t := (.slice (.int .i64))) rfl rfl und34 rfl) ?_
  refine awl_v (av_move rfl) ?_
  refine awl_nil (athen_norm (awc_block ?_))
  obtain ⟨o3, e4, hr⟩ := bnd_some hr
  refine awc_len (t := 1) rfl (fun hl => ?_)
  refine awc_range (S := Unit) (R := Unit) (List.length p1 : Int) (f47_b0 p0 p1) (fun p => match p with | (i1, ()) => (⟨[(0, .int .i64 p0), (4, .bool false), (9, .sl (.slice (.int .i64)) p1), (10, .int .i64 (List.length p1 : Int)), (11, .int .i64 i1)], [], 0⟩ : AS)) (fun o e st => match o with | .inl () => e = .exit 0 ∧ Wk X st ⟨[(4, .bool false)], [], 0⟩ | .inr () => e = .ret ∧ Wk X st ⟨[(4, .bool false)], [], 0⟩) (len_ok hl) e4 (wk_of hX [] 4 rfl rfl ⟨⟨_, rfl, cv0⟩, ⟨_, rfl, cv0⟩, ⟨_, rfl, cv0⟩, ⟨_, rfl, cv0⟩, ⟨_, rfl, cv0⟩, trivial⟩ trivial) ?_ ?_
  · intro e st hx
    rcases o3 with _ | _
    · obtain ⟨rfl, hw⟩ := hx
      refine ablock_here (athen_norm ((awc_wk hw) (awc_seq ?_)))
      refine awc_region ?_
      refine awl_v (av_assign rfl) ?_
      have hr := Option.some.inj hr
      subst hr
      exact awl_nil (athen_norm (awc_ret (ret_q (l' := [(4, .bool true)]) (wk_of hX [] 4 rfl rfl ⟨⟨_, rfl, cv0⟩, trivial⟩ trivial) rfl ⟨rfl, trivial⟩)))
    · obtain ⟨rfl, hw⟩ := hx
      have hr := Option.some.inj hr
      subst hr
      exact ablock_ret (athen_ret (ret_q (l' := [(4, .bool false)]) (Wk.trans hw (wk_of hX [] 4 rfl rfl ⟨⟨_, rfl, cv0⟩, trivial⟩ trivial)) rfl ⟨rfl, trivial⟩))
  · rintro i1 _ o ho
    refine awc_seq ?_
    refine awc_region ?_
    refine awl_v (av_lss rfl rfl) ?_
    refine awl_nil (athen_norm (awc_seq ?_))
    refine awc_cond (b := decide (i1 < (List.length p1 : Int))) rfl (fun hc5 => ?_) (fun hc5 => ?_)
    · obtain ⟨q, hr, rfl⟩ := rb_t hc5 ho
      refine awc_skip (athen_norm (awc_seq (awc_block (awc_seq ?_))))
      refine awc_region ?_
      obtain ⟨x6, e7, hr⟩ := bnd_some hr
      refine awl_v (av_ia_sl (t := (.slice (.int .i64))) (e := x6) und34 sz22 rfl rfl e7) ?_
      refine awl_v (av_load_rp ts22 rfl) ?_
      refine awl_v (av_assign rfl) ?_
      refine awl_nil (athen_norm (awc_seq (awc_seq ?_)))
      refine awc_region ?_
      refine awl_v (av_move rfl) ?_
      refine awl_v (av_len_sl (t := (.int .i64)) rfl rfl und22 rfl) ?_
      refine awl_v (av_move rfl) ?_
      refine awl_v (av_neq rfl rfl) ?_
      refine awl_nil (athen_norm ?_)
      refine awc_cond (b := !decide ((List.length x6 : Int) = p0)) rfl (fun hc8 => ?_) (fun hc8 => ?_)
      · have hr := if_t hc8 hr
        refine awc_seq ?_
        refine awc_region ?_
        refine awl_v (av_assign rfl) ?_
        have hr := Option.some.inj hr
        subst hr
        exact awl_nil (athen_norm (awc_ret (athen_ret (ablock_ret (athen_ret (⟨rfl, (wk_of hX [] 4 rfl rfl ⟨⟨_, rfl, cv0⟩, trivial⟩ trivial)⟩))))))
      · have hr := if_f hc8 hr
        refine awc_skip (athen_norm (awc_seq ?_))
        refine awc_region ?_
        refine awl_v (av_move rfl) ?_
        refine awl_v (av_len_sl (t := (.int .i64)) rfl rfl und22 rfl) ?_
        refine awl_v (av_move rfl) ?_
        refine awl_nil (athen_norm (awc_block ?_))
        obtain ⟨o11, e12, hr⟩ := bnd_some hr
        refine awc_len (t := 14) rfl (fun hl => ?_)
        refine awc_range (S := Unit) (R := Unit) (List.length x6 : Int) (f47_b1 x6) (fun p => match p with | (i9, ()) => (⟨[(0, .int .i64 p0), (4, .bool false), (9, .sl (.slice (.int .i64)) p1), (10, .int .i64 (List.length p1 : Int)), (11, .int .i64 i1), (19, .sl (.int .i64) x6), (20, .int .i64 (List.length x6 : Int)), (21, .int .i64 i9)], [], 0⟩ : AS)) (fun o e st => match o with | .inl () => e = .exit 2 ∧ Wk X st ⟨[(0, .int .i64 p0), (4, .bool false), (9, .sl (.slice (.int .i64)) p1), (10, .int .i64 (List.length p1 : Int)), (11, .int .i64 i1)], [], 0⟩ | .inr () => e = .ret ∧ Wk X st ⟨[(4, .bool false)], [], 0⟩) (len_ok hl) e12 (wk_of hX [] 4 rfl rfl ⟨⟨_, rfl, cv0⟩, ⟨_, rfl, cv0⟩, ⟨_, rfl, cv0⟩, ⟨_, rfl, cv0⟩, ⟨_, rfl, cv0⟩, ⟨_, rfl, cv0⟩, ⟨_, rfl, cv0⟩, ⟨_, rfl, cv0⟩, trivial⟩ trivial) ?_ ?_
        · intro e st hx
          rcases o11 with _ | _
          · obtain ⟨rfl, hw⟩ := hx
            refine ablock_here (ablock_norm (athen_norm ((awc_wk hw) ?_)))
            refine awc_region ?_
            refine awl_v (av_add rfl rfl) ?_
            refine awl_v (av_move rfl) ?_
            have hr := Option.some.inj hr
            subst hr
            exact awl_nil ((wk_of hX [] 4 rfl rfl ⟨⟨_, rfl, cv0⟩, ⟨_, rfl, cv0⟩, ⟨_, rfl, cv0⟩, ⟨_, rfl, cv0⟩, ⟨_, rfl, cv0⟩, trivial⟩ trivial))
          · obtain ⟨rfl, hw⟩ := hx
            have hr := Option.some.inj hr
            subst hr
            exact ablock_ret (ablock_ret (athen_ret (⟨rfl, (Wk.trans hw (wk_of hX [] 4 rfl rfl ⟨⟨_, rfl, cv0⟩, trivial⟩ trivial))⟩)))
        · rintro i9 _ o ho
          refine awc_seq ?_
          refine awc_region ?_
          refine awl_v (av_lss rfl rfl) ?_
          refine awl_nil (athen_norm (awc_seq ?_))
          refine awc_cond (b := decide (i9 < (List.length x6 : Int))) rfl (fun hc13 => ?_) (fun hc13 => ?_)
          · obtain ⟨q, hr, rfl⟩ := rb_t hc13 ho
            refine awc_skip (athen_norm (awc_seq (awc_block (awc_seq ?_))))
            refine awc_region ?_
            obtain ⟨x14, e15, hr⟩ := bnd_some hr
            refine awl_v (av_ia_sl (t := (.int .i64)) (e := x14) und22 sz3 rfl rfl e15) ?_
            refine awl_v (av_load_rp ts3 rfl) ?_
            refine awl_v (av_assign rfl) ?_
            refine awl_nil (athen_norm (awc_seq ?_))
            refine awc_region ?_
            refine awl_v (av_move rfl) ?_
            refine awl_v (av_lss rfl rfl) ?_
            refine awl_nil (athen_norm ?_)
            refine awc_cond (b := decide (x14 < 0)) rfl (fun hc16 => ?_) (fun hc16 => ?_)
            · have hr := if_t hc16 hr
              refine awc_seq ?_
              refine awc_region ?_
              refine awl_v (av_assign rfl) ?_
              have hr := Option.some.inj hr
              subst hr
              exact awl_nil (athen_norm (awc_ret (ablock_ret (athen_ret (⟨rfl, (wk_of hX [] 4 rfl rfl ⟨⟨_, rfl, cv0⟩, trivial⟩ trivial)⟩)))))
            · have hr := if_f hc16 hr
              refine awc_skip (ablock_norm (athen_norm ?_))
              refine awc_region ?_
              refine awl_v (av_add rfl rfl) ?_
              refine awl_v (av_move rfl) ?_
              have hr := Option.some.inj hr
              subst hr
              exact awl_nil ((wk_of hX [] 4 rfl rfl ⟨⟨_, rfl, cv0⟩, ⟨_, rfl, cv0⟩, ⟨_, rfl, cv0⟩, ⟨_, rfl, cv0⟩, ⟨_, rfl, cv0⟩, ⟨_, rfl, cv0⟩, ⟨_, rfl, cv0⟩, ⟨_, rfl, cv0⟩, trivial⟩ trivial))
          · obtain rfl := rb_f hc13 ho
            exact awc_exit (athen_exit (⟨rfl, (wk_of hX [] 4 rfl rfl ⟨⟨_, rfl, cv0⟩, ⟨_, rfl, cv0⟩, ⟨_, rfl, cv0⟩, ⟨_, rfl, cv0⟩, ⟨_, rfl, cv0⟩, trivial⟩ trivial)⟩))
    · obtain rfl := rb_f hc5 ho
      exact awc_exit (athen_exit (⟨rfl, (wk_of hX [] 4 rfl rfl ⟨⟨_, rfl, cv0⟩, trivial⟩ trivial)⟩))
def f10_b0 (p0 : List Int) (p1 : List Int) (i5 : Int) (s : Bool × Bool) : Option ((Bool × Bool) ⊕ Unit) :=
match s with
| (s6, s7) => (bif (!(!s6) || Option.isSome (ix p0 i5)) then
bif (!(!s6) || Option.isSome (ix p1 i5)) then
bif (!(!s7) || Option.isSome (ix p0 i5)) then
bif (!(!s7) || Option.isSome (ix p1 i5)) then
some (.inl (s6 || (decide (((ix p0 i5).getD default) < ((ix p1 i5).getD default))), s7 || (decide (((ix p1 i5).getD default) < ((ix p0 i5).getD default)))))
else none
else none
else none
else none)
def f10 (p0 : List Int) (p1 : List Int) : Option (Int × Int) :=
(f46 p0).bind fun x1 =>
bif (!(!(!x1)) || Option.isSome (f47 (List.length p0 : Int) [p0, p1])) then
bif (!x1) || (!((f47 (List.length p0 : Int) [p0, p1]).getD default)) then
(some (0, 1))
else
((rng (f10_b0 p0 p1) (Int.toNat (List.length p0 : Int)) 0 (false, false)).bind fun o12 => match o12 with
| .inl (s6, s7) => (bif s6 && s7 then
(some (2, 0))
else
(bif s6 then
(some ((-1), 0))
else
(bif s7 then
(some (1, 0))
else
(some (0, 0)))))
| .inr _ => none)
else none
theorem f10_runs {p0 : List Int} {p1 : List Int} {r : Int × Int} (hr : f10 p0 p1 = some r) : RunsP Try.prog 10 [.sl (.int .i64) p0, .sl (.int .i64) p1] [.int .i64 r.1, .int .i64 r.2] := by
  refine runs_w Try.func10 Try.ntmps10 rfl (rs := [.tmp 4, .tmp 5]) rfl rfl fun w0 X hX => ?_
  refine awc_seq ?_
  refine awc_region ?_
  refine awl_v (av_assign rfl) ?_
  refine awl_v (av_assign rfl) ?_
  refine awl_nil (athen_norm (awc_seq (awc_seq ?_)))
  obtain ⟨x1, e2, hr⟩ := bnd_some hr
  obtain ⟨h3, hr⟩ := chk_some hr
  refine awc_text [0, 1, 4, 5] [(true, .sl (.int .i64) p0), (true, .bool x1), (true, .bool (!x1)), (true, .bool (!x1)), (!(!x1), .sl (.int .i64) p0), (!(!x1), .int .i64 (List.length p0 : Int)), (!(!x1), .sl (.int .i64) p0), (!(!x1), .sl (.int .i64) p1), (!(!x1), .sl (.slice (.int .i64)) [p0, p1]), (!(!x1), .bool ((f47 (List.length p0 : Int) [p0, p1]).getD default)), (!(!x1), .bool (!((f47 (List.length p0 : Int) [p0, p1]).getD default))), (true, .bool ((!x1) || (!((f47 (List.length p0 : Int) [p0, p1]).getD default))))] [[], [0], [1], [2], [3], [4, 3], [3], [3], [6, 7, 3], [5, 8, 3], [9, 3], [10, 3]] [11] rfl rfl rfl rfl rfl ⟨?_, ?_, ?_, ?_, ?_, ?_, ?_, ?_, ?_, ?_, ?_, ?_, trivial⟩ (allT_of ⟨rfl, trivial⟩) ?_
  · exact ob_v rfl (fun hg => allT_of trivial) (fun hg => av_move rfl)
  · exact ob_v rfl (fun hg => allT_of ⟨rfl, trivial⟩) (fun hg => av_call (f46_runs e2) ent46 rfl rfl)
  · exact ob_v rfl (fun hg => allT_of ⟨rfl, trivial⟩) (fun hg => av_not rfl)
  · exact ob_v rfl (fun hg => allT_of ⟨rfl, trivial⟩) (fun hg => av_move rfl)
  · exact ob_v ⟨rfl, rfl, rfl, _, rfl, rfl⟩ (fun hg => allT_of ⟨rfl, trivial⟩) (fun hg => av_move rfl)
  · exact ob_v ⟨rfl, rfl, rfl, _, rfl, rfl⟩ (fun hg => allT_of ⟨hg, rfl, trivial⟩) (fun hg => av_len_sl (t := (.int .i64)) rfl rfl und22 rfl)
  · exact ob_v ⟨rfl, rfl, rfl, _, rfl, rfl⟩ (fun hg => allT_of ⟨rfl, trivial⟩) (fun hg => av_move rfl)
  · exact ob_v ⟨rfl, rfl, rfl, _, rfl, rfl⟩ (fun hg => allT_of ⟨rfl, trivial⟩) (fun hg => av_move rfl)
  · exact ob_v ⟨rfl, rfl, rfl, _, rfl, rfl⟩ (fun hg => allT_of ⟨hg, hg, rfl, trivial⟩) (fun hg => av_buildSlice (t := (.slice (.int .i64))) (qs := [(0, [.sl (.int .i64) p0]), (1, [.sl (.int .i64) p1])]) (ys := [p0, p1]) bs34 rfl rfl rfl rfl rfl rfl rfl rfl)
  · exact ob_v ⟨rfl, rfl, rfl, _, rfl, rfl⟩ (fun hg => allT_of ⟨hg, hg, rfl, trivial⟩) (fun hg => av_call (f47_runs (get_g h3 hg)) ent47 rfl rfl)
  · exact ob_v ⟨rfl, rfl, rfl, _, rfl, rfl⟩ (fun hg => allT_of ⟨hg, rfl, trivial⟩) (fun hg => av_not rfl)
  · exact ob_pick (b := false) (p := !x1) (q := !((f47 (List.length p0 : Int) [p0, p1]).getD default)) rfl rfl rfl (fun hg => allT_of ⟨rfl, trivial⟩) rfl rfl rfl rfl rfl
  refine athen_norm ?_
  refine awc_cond (b := (!x1) || (!((f47 (List.length p0 : Int) [p0, p1]).getD default))) rfl (fun hc4 => ?_) (fun hc4 => ?_)
  · have hr := if_t hc4 hr
    refine awc_seq ?_
    refine awc_region ?_
    refine awl_v (av_assign rfl) ?_
    refine awl_v (av_assign rfl) ?_
    have hr := Option.some.inj hr
    subst hr
    exact awl_nil (athen_norm (awc_ret (athen_ret (ret_q (l' := [(4, .int .i64 0), (5, .int .i64 1)]) (wk_of hX [] 4 rfl rfl ⟨⟨_, rfl, cv0⟩, ⟨_, rfl, cv0⟩, trivial⟩ trivial) rfl ⟨rfl, rfl, trivial⟩))))
  · have hr := if_f hc4 hr
    refine awc_skip (athen_norm (awc_seq ?_))
    refine awc_region ?_
    refine awl_v (av_assign rfl) ?_
    refine awl_v (av_assign rfl) ?_
    refine awl_nil (athen_norm (awc_seq (awc_seq ?_)))
    refine awc_region ?_
    refine awl_v (av_move rfl) ?_
    refine awl_v (av_len_sl (t := (.int .i64)) rfl rfl und22 rfl) ?_
    refine awl_v (av_move rfl) ?_
    refine awl_nil (athen_norm (awc_block ?_))
    obtain ⟨o12, e13, hr⟩ := bnd_some hr
    refine awc_len (t := 0) rfl (fun hl => ?_)
    refine awc_range (S := Bool × Bool) (R := Unit) (List.length p0 : Int) (f10_b0 p0 p1) (fun p => match p with | (i5, s6, s7) => (⟨[(0, .sl (.int .i64) p0), (1, .sl (.int .i64) p1), (4, .int .i64 0), (5, .int .i64 0), (6, .bool s6), (7, .bool s7), (22, .int .i64 (List.length p0 : Int)), (23, .int .i64 i5)], [], 0⟩ : AS)) (fun o e st => match o with | .inr _ => False | .inl (s6, s7) => e = .exit 0 ∧ Wk X st ⟨[(4, .int .i64 0), (5, .int .i64 0), (6, .bool s6), (7, .bool s7)], [], 0⟩) (len_ok hl) e13 (wk_of hX [] 4 rfl rfl ⟨⟨_, rfl, cv0⟩, ⟨_, rfl, cv0⟩, ⟨_, rfl, cv0⟩, ⟨_, rfl, cv0⟩, ⟨_, rfl, cv0⟩, ⟨_, rfl, cv0⟩, ⟨_, rfl, cv0⟩, ⟨_, rfl, cv0⟩, trivial⟩ trivial) ?_ ?_
    · intro e st hx
      rcases o12 with ⟨s6, s7⟩ | _
      · obtain ⟨rfl, hw⟩ := hx
        refine ablock_here (athen_norm ((awc_wk hw) (awc_seq (awc_block (awc_seq ?_)))))
        refine awc_text [4, 5, 6, 7] [(true, .bool s6), (true, .bool s6), (s6, .bool s7), (true, .bool (s6 && s7)), (true, .bool (s6 && s7))] [[], [0], [1], [2, 1], [3]] [4] rfl rfl rfl rfl rfl ⟨?_, ?_, ?_, ?_, ?_, trivial⟩ (allT_of ⟨rfl, trivial⟩) ?_
        · exact ob_v rfl (fun hg => allT_of trivial) (fun hg => av_move rfl)
        · exact ob_v rfl (fun hg => allT_of ⟨rfl, trivial⟩) (fun hg => av_move rfl)
        · exact ob_v ⟨rfl, rfl, rfl, _, rfl, rfl⟩ (fun hg => allT_of ⟨rfl, trivial⟩) (fun hg => av_move rfl)
        · exact ob_pick (b := true) (p := s6) (q := s7) rfl rfl rfl (fun hg => allT_of ⟨rfl, trivial⟩) rfl rfl rfl rfl rfl
        · exact ob_v rfl (fun hg => allT_of ⟨rfl, trivial⟩) (fun hg => av_assign rfl)
        refine athen_norm ?_
        refine awc_cond (b := s6 && s7) rfl (fun hc14 => ?_) (fun hc14 => ?_)
        · have hr := if_t hc14 hr
          refine awc_seq ?_
          refine awc_region ?_
          refine awl_v (av_assign rfl) ?_
          refine awl_v (av_assign rfl) ?_
          have hr := Option.some.inj hr
          subst hr
          exact awl_nil (athen_norm (awc_ret (ablock_ret (athen_ret (ret_q (l' := [(4, .int .i64 2), (5, .int .i64 0)]) (wk_of hX [] 4 rfl rfl ⟨⟨_, rfl, cv0⟩, ⟨_, rfl, cv0⟩, trivial⟩ trivial) rfl ⟨rfl, rfl, trivial⟩)))))
        · have hr := if_f hc14 hr
          refine awc_seq ?_
          refine awc_region ?_
          refine awl_v (av_move rfl) ?_
          refine awl_v (av_assign rfl) ?_
          refine awl_nil (athen_norm ?_)
          refine awc_cond (b := s6) rfl (fun hc15 => ?_) (fun hc15 => ?_)
          · have hr := if_t hc15 hr
            refine awc_seq ?_
            refine awc_region ?_
            refine awl_v (av_assign rfl) ?_
            refine awl_v (av_assign rfl) ?_
            have hr := Option.some.inj hr
            subst hr
            exact awl_nil (athen_norm (awc_ret (ablock_ret (athen_ret (ret_q (l' := [(4, .int .i64 (-1)), (5, .int .i64 0)]) (wk_of hX [] 4 rfl rfl ⟨⟨_, rfl, cv0⟩, ⟨_, rfl, cv0⟩, trivial⟩ trivial) rfl ⟨rfl, rfl, trivial⟩)))))
          · have hr := if_f hc15 hr
            refine awc_seq ?_
            refine awc_region ?_
            refine awl_v (av_move rfl) ?_
            refine awl_v (av_assign rfl) ?_
            refine awl_nil (athen_norm ?_)
            refine awc_cond (b := s7) rfl (fun hc16 => ?_) (fun hc16 => ?_)
            · have hr := if_t hc16 hr
              refine awc_seq ?_
              refine awc_region ?_
              refine awl_v (av_assign rfl) ?_
              refine awl_v (av_assign rfl) ?_
              have hr := Option.some.inj hr
              subst hr
              exact awl_nil (athen_norm (awc_ret (ablock_ret (athen_ret (ret_q (l' := [(4, .int .i64 1), (5, .int .i64 0)]) (wk_of hX [] 4 rfl rfl ⟨⟨_, rfl, cv0⟩, ⟨_, rfl, cv0⟩, trivial⟩ trivial) rfl ⟨rfl, rfl, trivial⟩)))))
            · have hr := if_f hc16 hr
              refine awc_skip (ablock_norm (athen_norm (awc_seq ?_)))
              refine awc_region ?_
              refine awl_v (av_assign rfl) ?_
              refine awl_v (av_assign rfl) ?_
              have hr := Option.some.inj hr
              subst hr
              exact awl_nil (athen_norm (awc_ret (ret_q (l' := [(4, .int .i64 0), (5, .int .i64 0)]) (wk_of hX [] 4 rfl rfl ⟨⟨_, rfl, cv0⟩, ⟨_, rfl, cv0⟩, trivial⟩ trivial) rfl ⟨rfl, rfl, trivial⟩)))
      · exact hx.elim
    · rintro i5 ⟨s6, s7⟩ o ho
      refine awc_seq ?_
      refine awc_region ?_
      refine awl_v (av_lss rfl rfl) ?_
      refine awl_nil (athen_norm (awc_seq ?_))
      refine awc_cond (b := decide (i5 < (List.length p0 : Int))) rfl (fun hc17 => ?_) (fun hc17 => ?_)
      · obtain ⟨q, hr, rfl⟩ := rb_t hc17 ho
        refine awc_skip (athen_norm (awc_seq (awc_block (awc_seq ?_))))
        refine awc_region ?_
        refine awl_v (av_move rfl) ?_
        refine awl_v (av_assign rfl) ?_
        refine awl_nil (athen_norm (awc_seq ?_))
        obtain ⟨h18, hr⟩ := chk_some hr
        obtain ⟨h19, hr⟩ := chk_some hr
        refine awc_draw_tail2 12 [12, 12, 12, 12, 12, 12, 12, 12, 12, 12, 12, 12] mixed [0, 1, 4, 5, 6, 7, 22, 23, 8] [(true, .bool s6), (true, .bool s6), (!s6, .sl (.int .i64) p0), (!s6, .int .i64 i5), (!s6, .rp [.int .i64 ((ix p0 i5).getD default)]), (!s6, .int .i64 ((ix p0 i5).getD default)), (!s6, .sl (.int .i64) p1), (!s6, .int .i64 i5), (!s6, .rp [.int .i64 ((ix p1 i5).getD default)]), (!s6, .int .i64 ((ix p1 i5).getD default)), (!s6, .bool (decide (((ix p0 i5).getD default) < ((ix p1 i5).getD default)))), (true, .bool (s6 || (decide (((ix p0 i5).getD default) < ((ix p1 i5).getD default)))))] [[], [0], [1], [1], [2, 3, 1], [4, 1], [1], [1], [6, 7, 1], [8, 1], [5, 9, 1], [10, 1]] [11] rfl rfl rfl rfl rfl rfl rfl rfl ⟨?_, ?_, ?_, ?_, ?_, ?_, ?_, ?_, ?_, ?_, ?_, ?_, trivial⟩ (allT_of ⟨rfl, trivial⟩) ?_
        · exact ob_v rfl (fun hg => allT_of trivial) (fun hg => av_move rfl)
        · exact ob_v rfl (fun hg => allT_of ⟨rfl, trivial⟩) (fun hg => av_move rfl)
        · exact ob_v ⟨rfl, rfl, rfl, _, rfl, rfl⟩ (fun hg => allT_of ⟨rfl, trivial⟩) (fun hg => av_move rfl)
        · exact ob_v ⟨rfl, rfl, rfl, _, rfl, rfl⟩ (fun hg => allT_of ⟨rfl, trivial⟩) (fun hg => av_move rfl)
        · exact ob_v ⟨rfl, rfl, rfl, _, rfl, rfl⟩ (fun hg => allT_of ⟨hg, hg, rfl, trivial⟩) (fun hg => av_ia_sl (t := (.int .i64)) (e := ((ix p0 i5).getD default)) und22 sz3 rfl rfl (get_g h18 hg))
        · exact ob_v ⟨rfl, rfl, rfl, _, rfl, rfl⟩ (fun hg => allT_of ⟨hg, rfl, trivial⟩) (fun hg => av_load_rp ts3 rfl)
        · exact ob_v ⟨rfl, rfl, rfl, _, rfl, rfl⟩ (fun hg => allT_of ⟨rfl, trivial⟩) (fun hg => av_move rfl)
        · exact ob_v ⟨rfl, rfl, rfl, _, rfl, rfl⟩ (fun hg => allT_of ⟨rfl, trivial⟩) (fun hg => av_move rfl)
        · exact ob_v ⟨rfl, rfl, rfl, _, rfl, rfl⟩ (fun hg => allT_of ⟨hg, hg, rfl, trivial⟩) (fun hg => av_ia_sl (t := (.int .i64)) (e := ((ix p1 i5).getD default)) und22 sz3 rfl rfl (get_g h19 hg))
        · exact ob_v ⟨rfl, rfl, rfl, _, rfl, rfl⟩ (fun hg => allT_of ⟨hg, rfl, trivial⟩) (fun hg => av_load_rp ts3 rfl)
        · exact ob_v ⟨rfl, rfl, rfl, _, rfl, rfl⟩ (fun hg => allT_of ⟨hg, hg, rfl, trivial⟩) (fun hg => av_lss rfl rfl)
        · exact ob_pick (b := false) (p := s6) (q := decide (((ix p0 i5).getD default) < ((ix p1 i5).getD default))) rfl rfl rfl (fun hg => allT_of ⟨rfl, trivial⟩) rfl rfl rfl rfl rfl
        refine awl_v (av_assign rfl) ?_
        refine awl_nil (athen_norm ?_)
        obtain ⟨h20, hr⟩ := chk_some hr
        obtain ⟨h21, hr⟩ := chk_some hr
        refine awc_draw_tail2 12 [12, 12, 12, 12, 12, 12, 12, 12, 12, 12, 12, 12] mixed [0, 1, 4, 5, 6, 7, 22, 23, 8] [(true, .bool s7), (true, .bool s7), (!s7, .sl (.int .i64) p0), (!s7, .int .i64 i5), (!s7, .rp [.int .i64 ((ix p0 i5).getD default)]), (!s7, .int .i64 ((ix p0 i5).getD default)), (!s7, .sl (.int .i64) p1), (!s7, .int .i64 i5), (!s7, .rp [.int .i64 ((ix p1 i5).getD default)]), (!s7, .int .i64 ((ix p1 i5).getD default)), (!s7, .bool (decide (((ix p1 i5).getD default) < ((ix p0 i5).getD default)))), (true, .bool (s7 || (decide (((ix p1 i5).getD default) < ((ix p0 i5).getD default)))))] [[], [0], [1], [1], [2, 3, 1], [4, 1], [1], [1], [6, 7, 1], [8, 1], [5, 9, 1], [10, 1]] [11] rfl rfl rfl rfl rfl rfl rfl rfl ⟨?_, ?_, ?_, ?_, ?_, ?_, ?_, ?_, ?_, ?_, ?_, ?_, trivial⟩ (allT_of ⟨rfl, trivial⟩) ?_
        · exact ob_v rfl (fun hg => allT_of trivial) (fun hg => av_move rfl)
        · exact ob_v rfl (fun hg => allT_of ⟨rfl, trivial⟩) (fun hg => av_move rfl)
        · exact ob_v ⟨rfl, rfl, rfl, _, rfl, rfl⟩ (fun hg => allT_of ⟨rfl, trivial⟩) (fun hg => av_move rfl)
        · exact ob_v ⟨rfl, rfl, rfl, _, rfl, rfl⟩ (fun hg => allT_of ⟨rfl, trivial⟩) (fun hg => av_move rfl)
        · exact ob_v ⟨rfl, rfl, rfl, _, rfl, rfl⟩ (fun hg => allT_of ⟨hg, hg, rfl, trivial⟩) (fun hg => av_ia_sl (t := (.int .i64)) (e := ((ix p0 i5).getD default)) und22 sz3 rfl rfl (get_g h20 hg))
        · exact ob_v ⟨rfl, rfl, rfl, _, rfl, rfl⟩ (fun hg => allT_of ⟨hg, rfl, trivial⟩) (fun hg => av_load_rp ts3 rfl)
        · exact ob_v ⟨rfl, rfl, rfl, _, rfl, rfl⟩ (fun hg => allT_of ⟨rfl, trivial⟩) (fun hg => av_move rfl)
        · exact ob_v ⟨rfl, rfl, rfl, _, rfl, rfl⟩ (fun hg => allT_of ⟨rfl, trivial⟩) (fun hg => av_move rfl)
        · exact ob_v ⟨rfl, rfl, rfl, _, rfl, rfl⟩ (fun hg => allT_of ⟨hg, hg, rfl, trivial⟩) (fun hg => av_ia_sl (t := (.int .i64)) (e := ((ix p1 i5).getD default)) und22 sz3 rfl rfl (get_g h21 hg))
        · exact ob_v ⟨rfl, rfl, rfl, _, rfl, rfl⟩ (fun hg => allT_of ⟨hg, rfl, trivial⟩) (fun hg => av_load_rp ts3 rfl)
        · exact ob_v ⟨rfl, rfl, rfl, _, rfl, rfl⟩ (fun hg => allT_of ⟨hg, hg, rfl, trivial⟩) (fun hg => av_gtr rfl rfl)
        · exact ob_pick (b := false) (p := s7) (q := decide (((ix p1 i5).getD default) < ((ix p0 i5).getD default))) rfl rfl rfl (fun hg => allT_of ⟨rfl, trivial⟩) rfl rfl rfl rfl rfl
        refine awl_v (av_assign rfl) ?_
        refine awl_nil (ablock_norm (athen_norm ?_))
        refine awc_region ?_
        refine awl_v (av_add rfl rfl) ?_
        refine awl_v (av_move rfl) ?_
        have hr := Option.some.inj hr
        subst hr
        exact awl_nil ((wk_of hX [] 4 rfl rfl ⟨⟨_, rfl, cv0⟩, ⟨_, rfl, cv0⟩, ⟨_, rfl, cv0⟩, ⟨_, rfl, cv0⟩, ⟨_, rfl, cv0⟩, ⟨_, rfl, cv0⟩, ⟨_, rfl, cv0⟩, ⟨_, rfl, cv0⟩, trivial⟩ trivial))
      · obtain rfl := rb_f hc17 ho
        exact awc_exit (athen_exit (⟨rfl, (wk_of hX [] 4 rfl rfl ⟨⟨_, rfl, cv0⟩, ⟨_, rfl, cv0⟩, ⟨_, rfl, cv0⟩, ⟨_, rfl, cv0⟩, trivial⟩ trivial)⟩))
def f11 (p0 : List Int) (p1 : List Int) : Option (List Int × Int) :=
(f45 p0 p1).bind fun x1 =>
bif !x1 then
(some (([] : List Int), 1))
else
((f48 p0 p1).bind fun x4 =>
some (x4, 0))
theorem f11_runs {p0 : List Int} {p1 : List Int} {r : List Int × Int} (hr : f11 p0 p1 = some r) : RunsP Try.prog 11 [.sl (.int .i64) p0, .sl (.int .i64) p1] [.sl (.int .i64) r.1, .int .i64 r.2] := by
  refine runs_w Try.func11 Try.ntmps11 rfl (rs := [.tmp 4, .tmp 5]) rfl rfl fun w0 X hX => ?_
  refine awc_seq ?_
  refine awc_region ?_
  refine awl_v (av_assign rfl) ?_
  refine awl_v (av_assign rfl) ?_
  refine awl_nil (athen_norm (awc_seq (awc_seq ?_)))
  refine awc_region ?_
  refine awl_v (av_move rfl) ?_
  refine awl_v (av_move rfl) ?_
  obtain ⟨x1, e2, hr⟩ := bnd_some hr
  refine awl_v (av_call (f45_runs e2) ent45 rfl rfl) ?_
  refine awl_v (av_not rfl) ?_
  refine awl_nil (athen_norm ?_)
  refine awc_cond (b := !x1) rfl (fun hc3 => ?_) (fun hc3 => ?_)
  · have hr := if_t hc3 hr
    refine awc_seq ?_
    refine awc_region ?_
    refine awl_v (av_assign rfl) ?_
    refine awl_v (av_assign rfl) ?_
    have hr := Option.some.inj hr
    subst hr
    exact awl_nil (athen_norm (awc_ret (athen_ret (ret_q (l' := [(4, .sl (.int .i64) ([] : List Int)), (5, .int .i64 1)]) (wk_of hX [] 4 rfl rfl ⟨⟨_, rfl, cv2⟩, ⟨_, rfl, cv0⟩, trivial⟩ trivial) rfl ⟨rfl, rfl, trivial⟩))))
  · have hr := if_f hc3 hr
    refine awc_skip (athen_norm (awc_seq ?_))
    refine awc_region ?_
    refine awl_v (av_move rfl) ?_
    refine awl_v (av_move rfl) ?_
    obtain ⟨x4, e5, hr⟩ := bnd_some hr
    refine awl_op (aop_callO (σ := []) (as' := [.sl (.int .i64) p0, .sl (.int .i64) p1]) (f48_runs e5) ent48 rfl ⟨cv0, cv0, trivial⟩ rfl rfl rfl ?_)
    refine awl_v (av_assign rfl) ?_
    refine awl_v (av_assign rfl) ?_
    have hr := Option.some.inj hr
    subst hr
    exact awl_nil (athen_norm (awc_ret (ret_q (l' := [(4, .sl (.int .i64) x4), (5, .int .i64 0)]) (wk_of hX [] 4 rfl rfl ⟨⟨_, rfl, cv0⟩, ⟨_, rfl, cv0⟩, trivial⟩ trivial) rfl ⟨rfl, rfl, trivial⟩)))
def f12_b0 (p0 : List Int) (p1 : List Int) (i5 : Int) (s7 : List Int) : Option ((List Int) ⊕ Unit) :=
(ix p0 i5).bind fun x13 =>
(ix p1 i5).bind fun x15 =>
bif apOk 8 (List.length s7 + List.length [(max x13 x15)]) then
some (.inl (s7 ++ [(max x13 x15)]))
else none
def f12 (p0 : List Int) (p1 : List Int) : Option (List Int × Int) :=
(f46 p0).bind fun x1 =>
bif (!(!(!x1)) || Option.isSome (f47 (List.length p0 : Int) [p0, p1])) then
bif (!x1) || (!((f47 (List.length p0 : Int) [p0, p1]).getD default)) then
(some (([] : List Int), 1))
else
((rng (f12_b0 p0 p1) (Int.toNat (List.length p0 : Int)) 0 ([] : List Int)).bind fun o10 => match o10 with
| .inl s7 => (some (s7, 0))
| .inr _ => none)
else none
theorem f12_runs {p0 : List Int} {p1 : List Int} {r : List Int × Int} (hr : f12 p0 p1 = some r) : RunsP Try.prog 12 [.sl (.int .i64) p0, .sl (.int .i64) p1] [.sl (.int .i64) r.1, .int .i64 r.2] := by
  refine runs_w Try.func12 Try.ntmps12 rfl (rs := [.tmp 4, .tmp 5]) rfl rfl fun w0 X hX => ?_
  refine awc_seq ?_
  refine awc_region ?_
  refine awl_v (av_assign rfl) ?_
  refine awl_v (av_assign rfl) ?_
  refine awl_nil (athen_norm (awc_seq (awc_seq ?_)))
  obtain ⟨x1, e2, hr⟩ := bnd_some hr
  obtain ⟨h3, hr⟩ := chk_some hr
  refine awc_text [0, 1, 4, 5] [(true, .sl (.int .i64) p0), (true, .bool x1), (true, .bool (!x1)), (true, .bool (!x1)), (!(!x1), .sl (.int .i64) p0), (!(!x1), .int .i64 (List.length p0 : Int)), (!(!x1), .sl (.int .i64) p0), (!(!x1), .sl (.int .i64) p1), (!(!x1), .sl (.slice (.int .i64)) [p0, p1]), (!(!x1), .bool ((f47 (List.length p0 : Int) [p0, p1]).getD default)), (!(!x1), .bool (!((f47 (List.length p0 : Int) [p0, p1]).getD default))), (true, .bool ((!x1) || (!((f47 (List.length p0 : Int) [p0, p1]).getD default))))] [[], [0], [1], [2], [3], [4, 3], [3], [3], [6, 7, 3], [5, 8, 3], [9, 3], [10, 3]] [11] rfl rfl rfl rfl rfl ⟨?_, ?_, ?_, ?_, ?_, ?_, ?_, ?_, ?_, ?_, ?_, ?_, trivial⟩ (allT_of ⟨rfl, trivial⟩) ?_
  · exact ob_v rfl (fun hg => allT_of trivial) (fun hg => av_move rfl)
  · exact ob_v rfl (fun hg => allT_of ⟨rfl, trivial⟩) (fun hg => av_call (f46_runs e2) ent46 rfl rfl)
  · exact ob_v rfl (fun hg => allT_of ⟨rfl, trivial⟩) (fun hg => av_not rfl)
  · exact ob_v rfl (fun hg => allT_of ⟨rfl, trivial⟩) (fun hg => av_move rfl)
  · exact ob_v ⟨rfl, rfl, rfl, _, rfl, rfl⟩ (fun hg => allT_of ⟨rfl, trivial⟩) (fun hg => av_move rfl)
  · exact ob_v ⟨rfl, rfl, rfl, _, rfl, rfl⟩ (fun hg => allT_of ⟨hg, rfl, trivial⟩) (fun hg => av_len_sl (t := (.int .i64)) rfl rfl und22 rfl)
  · exact ob_v ⟨rfl, rfl, rfl, _, rfl, rfl⟩ (fun hg => allT_of ⟨rfl, trivial⟩) (fun hg => av_move rfl)
  · exact ob_v ⟨rfl, rfl, rfl, _, rfl, rfl⟩ (fun hg => allT_of ⟨rfl, trivial⟩) (fun hg => av_move rfl)
  · exact ob_v ⟨rfl, rfl, rfl, _, rfl, rfl⟩ (fun hg => allT_of ⟨hg, hg, rfl, trivial⟩) (fun hg => av_buildSlice (t := (.slice (.int .i64))) (qs := [(0, [.sl (.int .i64) p0]), (1, [.sl (.int .i64) p1])]) (ys := [p0, p1]) bs34 rfl rfl rfl rfl rfl rfl rfl rfl)
  · exact ob_v ⟨rfl, rfl, rfl, _, rfl, rfl⟩ (fun hg => allT_of ⟨hg, hg, rfl, trivial⟩) (fun hg => av_call (f47_runs (get_g h3 hg)) ent47 rfl rfl)
  · exact ob_v ⟨rfl, rfl, rfl, _, rfl, rfl⟩ (fun hg => allT_of ⟨hg, rfl, trivial⟩) (fun hg => av_not rfl)
  · exact ob_pick (b := false) (p := !x1) (q := !((f47 (List.length p0 : Int) [p0, p1]).getD default)) rfl rfl rfl (fun hg => allT_of ⟨rfl, trivial⟩) rfl rfl rfl rfl rfl
  refine athen_norm ?_
  refine awc_cond (b := (!x1) || (!((f47 (List.length p0 : Int) [p0, p1]).getD default))) rfl (fun hc4 => ?_) (fun hc4 => ?_)
  · have hr := if_t hc4 hr
    refine awc_seq ?_
    refine awc_region ?_
    refine awl_v (av_assign rfl) ?_
    refine awl_v (av_assign rfl) ?_
    have hr := Option.some.inj hr
    subst hr
    exact awl_nil (athen_norm (awc_ret (athen_ret (ret_q (l' := [(4, .sl (.int .i64) ([] : List Int)), (5, .int .i64 1)]) (wk_of hX [] 4 rfl rfl ⟨⟨_, rfl, cv2⟩, ⟨_, rfl, cv0⟩, trivial⟩ trivial) rfl ⟨rfl, rfl, trivial⟩))))
  · have hr := if_f hc4 hr
    refine awc_skip (athen_norm (awc_seq ?_))
    refine awc_region ?_
    refine awl_v (av_assign rfl) ?_
    refine awl_nil (athen_norm (awc_seq (awc_seq ?_)))
    refine awc_region ?_
    refine awl_v (av_move rfl) ?_
    refine awl_v (av_len_sl (t := (.int .i64)) rfl rfl und22 rfl) ?_
    refine awl_v (av_move rfl) ?_
    refine awl_nil (athen_norm (awc_block ?_))
    obtain ⟨o10, e11, hr⟩ := bnd_some hr
    refine awc_len (t := 0) rfl (fun hl => ?_)
    refine awc_range (S := List Int) (R := Unit) (List.length p0 : Int) (f12_b0 p0 p1) (fun p => match p with | (i5, s7) => (⟨[(0, .sl (.int .i64) p0), (1, .sl (.int .i64) p1), (4, .nils), (5, .int .i64 0), (6, .osl 0), (21, .int .i64 (List.length p0 : Int)), (22, .int .i64 i5)], [(0, .sl 3 (.int .i64) s7)], 1⟩ : AS)) (fun o e st => match o with | .inr _ => False | .inl s7 => e = .exit 0 ∧ Wk X st ⟨[(4, .nils), (5, .int .i64 0), (6, .osl 0)], [(0, .sl 3 (.int .i64) s7)], 1⟩) (len_ok hl) e11 (Wk.trans (wk_own (t := 6) 3 (.int .i64) rfl) (wk_of hX [0] 4 rfl rfl ⟨⟨_, rfl, cv0⟩, ⟨_, rfl, cv0⟩, ⟨_, rfl, cv0⟩, ⟨_, rfl, cv0⟩, ⟨_, rfl, cv0⟩, ⟨_, rfl, cv0⟩, ⟨_, rfl, cv0⟩, trivial⟩ ⟨cvo0, trivial⟩)) ?_ ?_
    · intro e st hx
      rcases o10 with s7 | _
      · obtain ⟨rfl, hw⟩ := hx
        refine ablock_here (athen_norm ((awc_wk hw) (awc_seq ?_)))
        refine awc_region ?_
        refine awl_v (av_move rfl) ?_
        refine awl_v (av_assign rfl) ?_
        refine awl_v (av_assign rfl) ?_
        have hr := Option.some.inj hr
        subst hr
        exact awl_nil (athen_norm (awc_ret (ret_q (l' := [(4, .sl (.int .i64) s7), (5, .int .i64 0)]) (wk_of hX [] 4 rfl rfl ⟨⟨_, rfl, cv0⟩, ⟨_, rfl, cv0⟩, trivial⟩ trivial) rfl ⟨rfl, rfl, trivial⟩)))
      · exact hx.elim
    · rintro i5 s7 o ho
      refine awc_seq ?_
      refine awc_region ?_
      refine awl_v (av_lss rfl rfl) ?_
      refine awl_nil (athen_norm (awc_seq ?_))
      refine awc_cond (b := decide (i5 < (List.length p0 : Int))) rfl (fun hc12 => ?_) (fun hc12 => ?_)
      · obtain ⟨q, hr, rfl⟩ := rb_t hc12 ho
        refine awc_skip (athen_norm (awc_seq (awc_block (awc_seq ?_))))
        refine awc_region ?_
        refine awl_v (av_move rfl) ?_
        refine awl_v (av_assign rfl) ?_
        refine awl_nil (athen_norm ?_)
        obtain ⟨x13, e14, hr⟩ := bnd_some hr
        obtain ⟨x15, e16, hr⟩ := bnd_some hr
        refine awc_draw_tail2 11 [11, 3, 3, 4, 9, 7, 7, 8, 9, 10, 11] mixed [0, 1, 4, 5, 6, 21, 22, 7] [(true, .osl 0), (true, .sl (.int .i64) p0), (true, .int .i64 i5), (true, .rp [.int .i64 x13]), (true, .int .i64 x13), (true, .sl (.int .i64) p1), (true, .int .i64 i5), (true, .rp [.int .i64 x15]), (true, .int .i64 x15), (true, .int .i64 (max x13 x15)), (true, .sl (.int .i64) [(max x13 x15)])] [[], [], [], [1, 2], [3], [], [], [5, 6], [7], [4, 8], [9]] [0, 10] rfl rfl rfl rfl rfl rfl rfl rfl ⟨?_, ?_, ?_, ?_, ?_, ?_, ?_, ?_, ?_, ?_, ?_, trivial⟩ (allT_of ⟨rfl, rfl, trivial⟩) ?_
        · exact ob_v rfl (fun hg => allT_of trivial) (fun hg => av_move rfl)
        · exact ob_v rfl (fun hg => allT_of trivial) (fun hg => av_move rfl)
        · exact ob_v rfl (fun hg => allT_of trivial) (fun hg => av_move rfl)
        · exact ob_v rfl (fun hg => allT_of ⟨rfl, rfl, trivial⟩) (fun hg => av_ia_sl (t := (.int .i64)) (e := x13) und22 sz3 rfl rfl e14)
        · exact ob_v rfl (fun hg => allT_of ⟨rfl, trivial⟩) (fun hg => av_load_rp ts3 rfl)
        · exact ob_v rfl (fun hg => allT_of trivial) (fun hg => av_move rfl)
        · exact ob_v rfl (fun hg => allT_of trivial) (fun hg => av_move rfl)
        · exact ob_v rfl (fun hg => allT_of ⟨rfl, rfl, trivial⟩) (fun hg => av_ia_sl (t := (.int .i64)) (e := x15) und22 sz3 rfl rfl e16)
        · exact ob_v rfl (fun hg => allT_of ⟨rfl, trivial⟩) (fun hg => av_load_rp ts3 rfl)
        · exact ob_v rfl (fun hg => allT_of ⟨rfl, rfl, trivial⟩) (fun hg => av_max rfl rfl rfl)
        · exact ob_v rfl (fun hg => allT_of ⟨rfl, trivial⟩) (fun hg => av_buildSlice (t := (.int .i64)) (qs := [(0, [.int .i64 (max x13 x15)])]) (ys := [(max x13 x15)]) bs22 rfl rfl rfl rfl rfl rfl rfl rfl)
        obtain ⟨h17, hr⟩ := chk_some hr
        refine awl_op (aop_append rfl rfl app22 rfl rfl rfl h17 rfl ?_)
        refine awl_v (av_assign rfl) ?_
        refine awl_nil (ablock_norm (athen_norm ?_))
        refine awc_region ?_
        refine awl_v (av_add rfl rfl) ?_
        refine awl_v (av_move rfl) ?_
        have hr := Option.some.inj hr
        subst hr
        exact awl_nil ((wk_of hX [1] 4 rfl rfl ⟨⟨_, rfl, cv0⟩, ⟨_, rfl, cv0⟩, ⟨_, rfl, cv0⟩, ⟨_, rfl, cv0⟩, ⟨_, rfl, cv0⟩, ⟨_, rfl, cv0⟩, ⟨_, rfl, cv0⟩, trivial⟩ ⟨cvo0, trivial⟩))
      · obtain rfl := rb_f hc12 ho
        exact awc_exit (athen_exit (⟨rfl, (wk_of hX [0] 4 rfl rfl ⟨⟨_, rfl, cv0⟩, ⟨_, rfl, cv0⟩, ⟨_, rfl, cv0⟩, trivial⟩ ⟨cvo0, trivial⟩)⟩))
def f3 (p0 : List Int) (p1 : List Int) : Option (Bool) :=
bif (decide (50 < (List.length p0 : Int))) || (decide (50 < (List.length p1 : Int))) then
((f8).bind fun x2 =>
some x2)
else
((f9 p0 p1).bind fun x4 =>
(f10 p0 p1).bind fun x6 =>
(f11 p0 p1).bind fun x8 =>
(f12 p0 p1).bind fun x10 =>
bif (!((decide (x4.1 = x6.1)) && (decide (x4.2 = x6.2))) || Option.isSome (f13 x8.1 x10.1)) then
bif (!((((decide (x4.1 = x6.1)) && (decide (x4.2 = x6.2))) && ((f13 x8.1 x10.1).getD default)) && (decide (x8.2 = x10.2))) || Option.isSome (f8)) then
some (((((decide (x4.1 = x6.1)) && (decide (x4.2 = x6.2))) && ((f13 x8.1 x10.1).getD default)) && (decide (x8.2 = x10.2))) && ((f8).getD default))
else none
else none)
theorem f3_runs {p0 : List Int} {p1 : List Int} {r : Bool} (hr : f3 p0 p1 = some r) : RunsP Try.prog 3 [.sl (.int .i64) p0, .sl (.int .i64) p1] [.bool r] := by
  refine runs_w Try.func3 Try.ntmps3 rfl (rs := [.tmp 4]) rfl rfl fun w0 X hX => ?_
  refine awc_seq ?_
  refine awc_region ?_
  refine awl_v (av_assign rfl) ?_
  refine awl_nil (athen_norm (awc_seq (awc_seq ?_)))
  refine awc_text [0, 1, 4] [(true, .sl (.int .i64) p0), (true, .int .i64 (List.length p0 : Int)), (true, .bool (decide (50 < (List.length p0 : Int)))), (true, .bool (decide (50 < (List.length p0 : Int)))), (!(decide (50 < (List.length p0 : Int))), .sl (.int .i64) p1), (!(decide (50 < (List.length p0 : Int))), .int .i64 (List.length p1 : Int)), (!(decide (50 < (List.length p0 : Int))), .bool (decide (50 < (List.length p1 : Int)))), (true, .bool ((decide (50 < (List.length p0 : Int))) || (decide (50 < (List.length p1 : Int)))))] [[], [0], [1], [2], [3], [4, 3], [5, 3], [6, 3]] [7] rfl rfl rfl rfl rfl ⟨?_, ?_, ?_, ?_, ?_, ?_, ?_, ?_, trivial⟩ (allT_of ⟨rfl, trivial⟩) ?_
  · exact ob_v rfl (fun hg => allT_of trivial) (fun hg => av_move rfl)
  · exact ob_v rfl (fun hg => allT_of ⟨rfl, trivial⟩) (fun hg => av_len_sl (t := (.int .i64)) rfl rfl und22 rfl)
  · exact ob_v rfl (fun hg => allT_of ⟨rfl, trivial⟩) (fun hg => av_gtr rfl rfl)
  · exact ob_v rfl (fun hg => allT_of ⟨rfl, trivial⟩) (fun hg => av_move rfl)
  · exact ob_v ⟨rfl, rfl, rfl, _, rfl, rfl⟩ (fun hg => allT_of ⟨rfl, trivial⟩) (fun hg => av_move rfl)
  · exact ob_v ⟨rfl, rfl, rfl, _, rfl, rfl⟩ (fun hg => allT_of ⟨hg, rfl, trivial⟩) (fun hg => av_len_sl (t := (.int .i64)) rfl rfl und22 rfl)
  · exact ob_v ⟨rfl, rfl, rfl, _, rfl, rfl⟩ (fun hg => allT_of ⟨hg, rfl, trivial⟩) (fun hg => av_gtr rfl rfl)
  · exact ob_pick (b := false) (p := decide (50 < (List.length p0 : Int))) (q := decide (50 < (List.length p1 : Int))) rfl rfl rfl (fun hg => allT_of ⟨rfl, trivial⟩) rfl rfl rfl rfl rfl
  refine athen_norm ?_
  refine awc_cond (b := (decide (50 < (List.length p0 : Int))) || (decide (50 < (List.length p1 : Int)))) rfl (fun hc1 => ?_) (fun hc1 => ?_)
  · have hr := if_t hc1 hr
    refine awc_seq ?_
    refine awc_region ?_
    obtain ⟨x2, e3, hr⟩ := bnd_some hr
    refine awl_v (av_call (f8_runs e3) ent8 rfl rfl) ?_
    refine awl_v (av_assign rfl) ?_
    have hr := Option.some.inj hr
    subst hr
    exact awl_nil (athen_norm (awc_ret (athen_ret (ret_q (l' := [(4, .bool x2)]) (wk_of hX [] 4 rfl rfl ⟨⟨_, rfl, cv0⟩, trivial⟩ trivial) rfl ⟨rfl, trivial⟩))))
  · have hr := if_f hc1 hr
    refine awc_skip (athen_norm (awc_seq ?_))
    refine awc_region ?_
    refine awl_v (av_move rfl) ?_
    refine awl_v (av_move rfl) ?_
    obtain ⟨x4, e5, hr⟩ := bnd_some hr
    refine awl_v (av_call (f9_runs e5) ent9 rfl rfl) ?_
    refine awl_v (av_move rfl) ?_
    refine awl_v (av_extract rfl rfl) ?_
    refine awl_v (av_extract rfl rfl) ?_
    refine awl_v (av_assign rfl) ?_
    refine awl_v (av_assign rfl) ?_
    refine awl_nil (athen_norm (awc_seq ?_))
    refine awc_region ?_
    refine awl_v (av_move rfl) ?_
    refine awl_v (av_move rfl) ?_
    obtain ⟨x6, e7, hr⟩ := bnd_some hr
    refine awl_v (av_call (f10_runs e7) ent10 rfl rfl) ?_
    refine awl_v (av_move rfl) ?_
    refine awl_v (av_extract rfl rfl) ?_
    refine awl_v (av_extract rfl rfl) ?_
    refine awl_v (av_assign rfl) ?_
    refine awl_v (av_assign rfl) ?_
    refine awl_nil (athen_norm (awc_seq ?_))
    refine awc_region ?_
    refine awl_v (av_move rfl) ?_
    refine awl_v (av_move rfl) ?_
    obtain ⟨x8, e9, hr⟩ := bnd_some hr
    refine awl_v (av_call (f11_runs e9) ent11 rfl rfl) ?_
    refine awl_v (av_move rfl) ?_
    refine awl_v (av_extract rfl rfl) ?_
    refine awl_v (av_extract rfl rfl) ?_
    refine awl_v (av_assign rfl) ?_
    refine awl_v (av_assign rfl) ?_
    refine awl_nil (athen_norm (awc_seq ?_))
    refine awc_region ?_
    refine awl_v (av_move rfl) ?_
    refine awl_v (av_move rfl) ?_
    obtain ⟨x10, e11, hr⟩ := bnd_some hr
    refine awl_v (av_call (f12_runs e11) ent12 rfl rfl) ?_
    refine awl_v (av_move rfl) ?_
    refine awl_v (av_extract rfl rfl) ?_
    refine awl_v (av_extract rfl rfl) ?_
    refine awl_v (av_assign rfl) ?_
    refine awl_v (av_assign rfl) ?_
    refine awl_nil (athen_norm (awc_seq ?_))
    obtain ⟨h12, hr⟩ := chk_some hr
    obtain ⟨h13, hr⟩ := chk_some hr
    refine awc_text [5, 6, 7, 8, 9, 10, 11, 12] [(true, .int .i64 x4.1), (true, .int .i64 x6.1), (true, .bool (decide (x4.1 = x6.1))), (true, .bool (decide (x4.1 = x6.1))), (decide (x4.1 = x6.1), .int .i64 x4.2), (decide (x4.1 = x6.1), .int .i64 x6.2), (decide (x4.1 = x6.1), .bool (decide (x4.2 = x6.2))), (true, .bool ((decide (x4.1 = x6.1)) && (decide (x4.2 = x6.2)))), (true, .bool ((decide (x4.1 = x6.1)) && (decide (x4.2 = x6.2)))), ((decide (x4.1 = x6.1)) && (decide (x4.2 = x6.2)), .sl (.int .i64) x8.1), ((decide (x4.1 = x6.1)) && (decide (x4.2 = x6.2)), .sl (.int .i64) x10.1), ((decide (x4.1 = x6.1)) && (decide (x4.2 = x6.2)), .bool ((f13 x8.1 x10.1).getD default)), (true, .bool (((decide (x4.1 = x6.1)) && (decide (x4.2 = x6.2))) && ((f13 x8.1 x10.1).getD default))), (true, .bool (((decide (x4.1 = x6.1)) && (decide (x4.2 = x6.2))) && ((f13 x8.1 x10.1).getD default))), (((decide (x4.1 = x6.1)) && (decide (x4.2 = x6.2))) && ((f13 x8.1 x10.1).getD default), .int .i64 x8.2), (((decide (x4.1 = x6.1)) && (decide (x4.2 = x6.2))) && ((f13 x8.1 x10.1).getD default), .int .i64 x10.2), (((decide (x4.1 = x6.1)) && (decide (x4.2 = x6.2))) && ((f13 x8.1 x10.1).getD default), .bool (decide (x8.2 = x10.2))), (true, .bool ((((decide (x4.1 = x6.1)) && (decide (x4.2 = x6.2))) && ((f13 x8.1 x10.1).getD default)) && (decide (x8.2 = x10.2)))), (true, .bool ((((decide (x4.1 = x6.1)) && (decide (x4.2 = x6.2))) && ((f13 x8.1 x10.1).getD default)) && (decide (x8.2 = x10.2)))), ((((decide (x4.1 = x6.1)) && (decide (x4.2 = x6.2))) && ((f13 x8.1 x10.1).getD default)) && (decide (x8.2 = x10.2)), .bool ((f8).getD default)), (true, .bool (((((decide (x4.1 = x6.1)) && (decide (x4.2 = x6.2))) && ((f13 x8.1 x10.1).getD default)) && (decide (x8.2 = x10.2))) && ((f8).getD default))), (true, .bool (((((decide (x4.1 = x6.1)) && (decide (x4.2 = x6.2))) && ((f13 x8.1 x10.1).getD default)) && (decide (x8.2 = x10.2))) && ((f8).getD default)))] [[], [], [0, 1], [2], [3], [3], [4, 5, 3], [6, 3], [7], [8], [8], [9, 10, 8], [11, 8], [12], [13], [13], [14, 15, 13], [16, 13], [17], [18], [19, 18], [20]] [21] rfl rfl rfl rfl rfl ⟨?_, ?_, ?_, ?_, ?_, ?_, ?_, ?_, ?_, ?_, ?_, ?_, ?_, ?_, ?_, ?_, ?_, ?_, ?_, ?_, ?_, ?_, trivial⟩ (allT_of ⟨rfl, trivial⟩) ?_
    · exact ob_v rfl (fun hg => allT_of trivial) (fun hg => av_move rfl)
    · exact ob_v rfl (fun hg => allT_of trivial) (fun hg => av_move rfl)
    · exact ob_v rfl (fun hg => allT_of ⟨rfl, rfl, trivial⟩) (fun hg => av_eql rfl rfl)
    · exact ob_v rfl (fun hg => allT_of ⟨rfl, trivial⟩) (fun hg => av_move rfl)
    · exact ob_v ⟨rfl, rfl, rfl, _, rfl, rfl⟩ (fun hg => allT_of ⟨rfl, trivial⟩) (fun hg => av_move rfl)
    · exact ob_v ⟨rfl, rfl, rfl, _, rfl, rfl⟩ (fun hg => allT_of ⟨rfl, trivial⟩) (fun hg => av_move rfl)
    · exact ob_v ⟨rfl, rfl, rfl, _, rfl, rfl⟩ (fun hg => allT_of ⟨hg, hg, rfl, trivial⟩) (fun hg => av_eql rfl rfl)
    · exact ob_pick (b := true) (p := decide (x4.1 = x6.1)) (q := decide (x4.2 = x6.2)) rfl rfl rfl (fun hg => allT_of ⟨rfl, trivial⟩) rfl rfl rfl rfl rfl
    · exact ob_v rfl (fun hg => allT_of ⟨rfl, trivial⟩) (fun hg => av_move rfl)
    · exact ob_v ⟨rfl, rfl, rfl, _, rfl, rfl⟩ (fun hg => allT_of ⟨rfl, trivial⟩) (fun hg => av_move rfl)
    · exact ob_v ⟨rfl, rfl, rfl, _, rfl, rfl⟩ (fun hg => allT_of ⟨rfl, trivial⟩) (fun hg => av_move rfl)
    · exact ob_v ⟨rfl, rfl, rfl, _, rfl, rfl⟩ (fun hg => allT_of ⟨hg, hg, rfl, trivial⟩) (fun hg => av_call (f13_runs (get_g h12 hg)) ent13 rfl rfl)
    · exact ob_pick (b := true) (p := (decide (x4.1 = x6.1)) && (decide (x4.2 = x6.2))) (q := ((f13 x8.1 x10.1).getD default)) rfl rfl rfl (fun hg => allT_of ⟨rfl, trivial⟩) rfl rfl rfl rfl rfl
    · exact ob_v rfl (fun hg => allT_of ⟨rfl, trivial⟩) (fun hg => av_move rfl)
    · exact ob_v ⟨rfl, rfl, rfl, _, rfl, rfl⟩ (fun hg => allT_of ⟨rfl, trivial⟩) (fun hg => av_move rfl)
    · exact ob_v ⟨rfl, rfl, rfl, _, rfl, rfl⟩ (fun hg => allT_of ⟨rfl, trivial⟩) (fun hg => av_move rfl)
    · exact ob_v ⟨rfl, rfl, rfl, _, rfl, rfl⟩ (fun hg => allT_of ⟨hg, hg, rfl, trivial⟩) (fun hg => av_eql rfl rfl)
    · exact ob_pick (b := true) (p := ((decide (x4.1 = x6.1)) && (decide (x4.2 = x6.2))) && ((f13 x8.1 x10.1).getD default)) (q := decide (x8.2 = x10.2)) rfl rfl rfl (fun hg => allT_of ⟨rfl, trivial⟩) rfl rfl rfl rfl rfl
    · exact ob_v rfl (fun hg => allT_of ⟨rfl, trivial⟩) (fun hg => av_move rfl)
    · exact ob_v ⟨rfl, rfl, rfl, _, rfl, rfl⟩ (fun hg => allT_of ⟨rfl, trivial⟩) (fun hg => av_call (f8_runs (get_g h13 hg)) ent8 rfl rfl)
    · exact ob_pick (b := true) (p := (((decide (x4.1 = x6.1)) && (decide (x4.2 = x6.2))) && ((f13 x8.1 x10.1).getD default)) && (decide (x8.2 = x10.2))) (q := ((f8).getD default)) rfl rfl rfl (fun hg => allT_of ⟨rfl, trivial⟩) rfl rfl rfl rfl rfl
    · exact ob_v rfl (fun hg => allT_of ⟨rfl, trivial⟩) (fun hg => av_assign rfl)
    have hr := Option.some.inj hr
    subst hr
    exact athen_norm (awc_ret (ret_q (l' := [(4, .bool (((((decide (x4.1 = x6.1)) && (decide (x4.2 = x6.2))) && ((f13 x8.1 x10.1).getD default)) && (decide (x8.2 = x10.2))) && ((f8).getD default)))]) (wk_of hX [] 4 rfl rfl ⟨⟨_, rfl, cv0⟩, trivial⟩ trivial) rfl ⟨rfl, trivial⟩))
end Go.Ab
