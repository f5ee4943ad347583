/- Lemmas for a law of the seat: what functions of the program do, each stated as a contract of its own (S3). -/
import Derived.Test.YtbjafckcpkhoaaaS2b
import Derived.Test.YtbjafckcpkhoaaaEng
import Derived.Test.YtbjafckcpkhoaaaChecked
set_option linter.unusedVariables false
set_option maxRecDepth 100000
namespace Go.Eng
open Go.RowKit Go.Shelf Go.Proofs Pol

theorem ent6 : Enters Try.prog 6 := enters_of Try.func6 (by kernel_rfl) rfl
theorem ent7 : Enters Try.prog 7 := enters_of Try.func7 (by kernel_rfl) rfl
theorem ent9 : Enters Try.prog 9 := enters_of Try.func9 (by kernel_rfl) rfl
theorem ent11 : Enters Try.prog 11 := enters_of Try.func11 (by kernel_rfl) rfl
theorem ent12 : Enters Try.prog 12 := enters_of Try.func12 (by kernel_rfl) rfl
theorem und34 : Und Try.prog 34 (.slice 3) := by unfold Und; kernel_rfl
theorem ent13 : Enters Try.prog 13 := enters_of Try.func13 (by kernel_rfl) rfl

theorem two_of {α : Type} {a b x : α} {k : Nat} (h : [a, b][k]? = some x) : x = a ∨ x = b := by
  have := List.mem_of_getElem? h
  simpa using this
theorem hdr_pick {w : World} {A1 A2 : Option Addr} {n1 n2 c1 c2 : Nat} {a b : List Pol} {x : Hdr} (h : x = ⟨A1, n1, c1⟩ ∨ x = ⟨A2, n2, c2⟩) (h1 : RdP w A1 n1 a) (h2 : RdP w A2 n2 b) : ∃ s : List Pol, RdP w x.A x.n s ∧ (s = a ∨ s = b) := by
  rcases h with rfl | rfl
  · exact ⟨a, h1, .inl rfl⟩
  · exact ⟨b, h2, .inr rfl⟩
theorem short2 {A1 A2 : Option Addr} {n1 n2 c1 c2 : Nat} (h : shortH [⟨A1, n1, c1⟩, ⟨A2, n2, c2⟩] = true) : n1 ≤ 200 ∧ n2 ≤ 200 := by
  simp [shortH] at h; omega

theorem PolicyAgrees_spec {w : World} {A : Option Addr} {n c : Nat} {a : List Pol} {A2 : Option Addr} {n2 c2 : Nat} {b : List Pol} (hs : RdP w A n a) (hs2 : RdP w A2 n2 b) : Ret Try.prog 3 #[.slice A n c, .slice A2 n2 c2] w (fun v w' => v = .bool true ∧ Below w.heap.size w w') := by
  obtain ⟨bs1, os2, hA3, hc4⟩ := hs.flat
  have hln5 := hs.len
  have hbd6 := hs.bd
  have hlen_a := hs.len
  obtain ⟨bs7, os8, hA9, hc10⟩ := hs2.flat
  have hln11 := hs2.len
  have hbd12 := hs2.bd
  have hlen_b := hs2.len
  refine ret_of (args := [.slice A n c, .slice A2 n2 c2]) Try.func3 rfl Try.ntmps3 rfl (rs := [.tmp 4]) rfl ?_
  refine wc_seq ?_
  refine wc_region ?_
  refine wl_op rfl (op_assign rfl rfl ?_)
  refine (wl_done (then_norm ?_))
  refine wc_seq ?_
  refine wc_seq ?_
  refine wc_region ?_
  refine wl_op rfl (op_move rfl rfl ?_)
  refine wl_op rfl (op_move rfl rfl ?_)
  refine wl_op rfl (op_buildSlice (cs := #[.slice A n c, .slice A2 n2 c2]) (e := 22) rfl (fun w => by kernel_rfl) rfl ?_)
  intro W13 b14 hN15
  have hb16 : W13.heap[b14]? = some (.cells #[.slice A n c, .slice A2 n2 c2] 22 (0, 0)) := hN15.blk
  refine wl_op rfl (op_call ent6 rfl (short_spec (rd_of_blk (enc := encH) [(⟨A, n, c⟩ : Hdr), (⟨A2, n2, c2⟩ : Hdr)] hb16 (fun _ => rfl) rfl rfl rfl)) rfl ?_)
  rintro _ W17 ⟨rfl, hE18⟩
  refine wl_op rfl (op_not rfl rfl ?_)
  refine (wl_done (then_norm ?_))
  refine wc_cond (b := !(shortH [(⟨A, n, c⟩ : Hdr), (⟨A2, n2, c2⟩ : Hdr)])) rfl (fun hc19 => ?_) (fun hc19 => ?_)
  · refine wc_seq ?_
    refine wc_region ?_
    refine wl_op rfl (op_call ent7 rfl (awake_spec) rfl ?_)
    rintro _ W20 ⟨rfl, hE21⟩
    refine wl_op rfl (op_assign rfl rfl ?_)
    refine (wl_done (then_norm ?_))
    refine WC.sub [(0, .slice A n c), (1, .slice A2 n2 c2), (4, .bool true)] ⟨rfl, rfl, rfl, trivial⟩ ?_
    refine wc_ret ?_
    refine (then_ret ?_)
    have hB22 : Below w.heap.size w W20 := (below_step (below_step (below_new (Below.refl _ _) hN15) hE18) hE21)
    refine ⟨[_], ⟨rfl, trivial⟩, ⟨?_, hB22⟩⟩
    exact rfl
  · have hsh := short2 (by simpa using hc19)
    refine wc_skip ?_
    refine (then_norm ?_)
    refine wc_seq ?_
    refine wc_region ?_
    refine wl_op rfl (op_move rfl rfl ?_)
    have hB23 : Below w.heap.size w W17 := (below_step (below_new (Below.refl _ _) hN15) hE18)
    refine wl_op rfl (op_call ent8 rfl (Clashes_spec (hs.ext (flat_lifts _) hB23)) rfl ?_)
    rintro _ W28 ⟨A124, n125, c126, rfl, hp27, hE29⟩
    have hlen_l := hp27.len
    refine wl_op rfl (op_move rfl rfl ?_)
    refine wl_op rfl (op_extract (v := .slice A124 n125 c126) rfl rfl rfl ?_)
    refine wl_op rfl (op_extract (v := .int .i64 (chosenE a)) rfl rfl rfl ?_)
    refine wl_op rfl (op_assign rfl rfl ?_)
    refine wl_op rfl (op_assign rfl rfl ?_)
    refine (wl_done (then_norm ?_))
    refine WC.sub [(0, .slice A n c), (1, .slice A2 n2 c2), (4, .bool false), (5, .slice A124 n125 c126), (6, .int .i64 (chosenE a))] ⟨rfl, rfl, rfl, rfl, rfl, trivial⟩ ?_
    refine wc_seq ?_
    refine wc_region ?_
    refine wl_op rfl (op_move rfl rfl ?_)
    have hB30 : Below w.heap.size w W28 := (below_step hB23 hE29)
    refine wl_op rfl (op_call ent9 rfl (rClashes_spec (hs.ext (flat_lifts _) hB30)) rfl ?_)
    rintro _ W35 ⟨A131, n132, c133, rfl, hp34, hE36⟩
    have hlen_m := hp34.len
    refine wl_op rfl (op_move rfl rfl ?_)
    refine wl_op rfl (op_extract (v := .slice A131 n132 c133) rfl rfl rfl ?_)
    refine wl_op rfl (op_extract (v := .int .i64 (chosenE a)) rfl rfl rfl ?_)
    refine wl_op rfl (op_assign rfl rfl ?_)
    refine wl_op rfl (op_assign rfl rfl ?_)
    refine (wl_done (then_norm ?_))
    refine wc_seq ?_
    refine wc_seq ?_
    refine wc_text [(0, .slice A n c), (1, .slice A2 n2 c2), (4, .bool false), (5, .slice A124 n125 c126), (6, .int .i64 (chosenE a)), (7, .slice A131 n132 c133), (8, .int .i64 (chosenE a))] ⟨rfl, rfl, rfl, rfl, rfl, rfl, rfl, trivial⟩ [fun v _ => v = .int .i64 (chosenE a), fun v _ => v = .int .i64 (chosenE a), fun v _ => v = .bool (!decide (chosenE a = chosenE a)), fun v _ => v = .bool (!decide (chosenE a = chosenE a)), fun v _ => v = (bif (!(!decide (chosenE a = chosenE a))) then (.slice A124 n125 c126) else undef), fun v _ => v = (bif (!(!decide (chosenE a = chosenE a))) then (.int .i64 ((n125 : Nat) : Int)) else undef), fun v _ => v = (bif (!(!decide (chosenE a = chosenE a))) then (.slice A131 n132 c133) else undef), fun v _ => v = (bif (!(!decide (chosenE a = chosenE a))) then (.int .i64 ((n132 : Nat) : Int)) else undef), fun v _ => v = (bif (!(!decide (chosenE a = chosenE a))) then (.bool (!decide (((n125 : Nat) : Int) = ((n132 : Nat) : Int)))) else undef), fun v _ => v = .bool ((!decide (chosenE a = chosenE a)) || (!decide (((n125 : Nat) : Int) = ((n132 : Nat) : Int))))] [[], [], [0, 1], [2], [3], [3, 4], [3], [3, 6], [3, 5, 7], [3, 8]] [9] rfl rfl rfl ⟨fun _ _ _ _ h => h, fun _ _ _ _ h => h, fun _ _ _ _ h => h, fun _ _ _ _ h => h, fun _ _ _ _ h => h, fun _ _ _ _ h => h, fun _ _ _ _ h => h, fun _ _ _ _ h => h, fun _ _ _ _ h => h, fun _ _ _ _ h => h, trivial⟩ ⟨?_, ?_, ?_, ?_, ?_, ?_, ?_, ?_, ?_, ?_, trivial⟩ ?_
    · intro W37 hW38
      refine gather_nil ?_
      refine opg_none rfl ?_
      exact op_move rfl rfl ⟨told rfl rfl rfl, (Below.refl _ _)⟩
    · intro W37 hW38
      refine gather_nil ?_
      refine opg_none rfl ?_
      exact op_move rfl rfl ⟨told rfl rfl rfl, (Below.refl _ _)⟩
    · intro W37 hW38
      rintro _ rfl
      rintro _ rfl
      refine gather_nil ?_
      refine opg_none rfl ?_
      exact op_neq rfl rfl rfl ⟨told rfl rfl rfl, (Below.refl _ _)⟩
    · intro W37 hW38
      rintro _ rfl
      refine gather_nil ?_
      refine opg_none rfl ?_
      exact op_move rfl rfl ⟨told rfl rfl rfl, (Below.refl _ _)⟩
    · intro W37 hW38
      rintro _ rfl
      refine gather_nil ?_
      refine opg_f1 rfl rfl (fun hg39 => ?_) (fun h => by rw [h, cond_false])
      exact op_move rfl rfl ⟨told rfl rfl (by rw [hg39, cond_true]), (Below.refl _ _)⟩
    · intro W37 hW38
      rintro _ rfl
      intro v40 (hv41 : v40 = bif (!(!decide (chosenE a = chosenE a))) then (.slice A124 n125 c126) else undef)
      refine gather_nil ?_
      refine opg_f1 rfl rfl (fun hg42 => ?_) (fun h => by rw [h, cond_false])
      obtain rfl : v40 = .slice A124 n125 c126 := by rw [hv41, hg42, cond_true]
      exact op_len_slice rfl rfl und25 rfl rfl ⟨told rfl rfl (by rw [hg42, cond_true]), (Below.refl _ _)⟩
    · intro W37 hW38
      rintro _ rfl
      refine gather_nil ?_
      refine opg_f1 rfl rfl (fun hg43 => ?_) (fun h => by rw [h, cond_false])
      exact op_move rfl rfl ⟨told rfl rfl (by rw [hg43, cond_true]), (Below.refl _ _)⟩
    · intro W37 hW38
      rintro _ rfl
      intro v44 (hv45 : v44 = bif (!(!decide (chosenE a = chosenE a))) then (.slice A131 n132 c133) else undef)
      refine gather_nil ?_
      refine opg_f1 rfl rfl (fun hg46 => ?_) (fun h => by rw [h, cond_false])
      obtain rfl : v44 = .slice A131 n132 c133 := by rw [hv45, hg46, cond_true]
      exact op_len_slice rfl rfl und25 rfl rfl ⟨told rfl rfl (by rw [hg46, cond_true]), (Below.refl _ _)⟩
    · intro W37 hW38
      rintro _ rfl
      intro v47 (hv48 : v47 = bif (!(!decide (chosenE a = chosenE a))) then (.int .i64 ((n125 : Nat) : Int)) else undef)
      intro v49 (hv50 : v49 = bif (!(!decide (chosenE a = chosenE a))) then (.int .i64 ((n132 : Nat) : Int)) else undef)
      refine gather_nil ?_
      refine opg_f1 rfl rfl (fun hg51 => ?_) (fun h => by rw [h, cond_false])
      obtain rfl : v47 = .int .i64 ((n125 : Nat) : Int) := by rw [hv48, hg51, cond_true]
      obtain rfl : v49 = .int .i64 ((n132 : Nat) : Int) := by rw [hv50, hg51, cond_true]
      exact op_neq rfl rfl rfl ⟨told rfl rfl (by rw [hg51, cond_true]), (Below.refl _ _)⟩
    · intro W37 hW38
      rintro _ rfl
      intro v52 (hv53 : v52 = bif (!(!decide (chosenE a = chosenE a))) then (.bool (!decide (((n125 : Nat) : Int) = ((n132 : Nat) : Int)))) else undef)
      refine gather_nil ?_
      refine opg_none rfl ?_
      exact op_or rfl rfl rfl (fun h => by rw [hv53, (not_i h), cond_true]) rfl ⟨told rfl rfl rfl, (Below.refl _ _)⟩
    intro W54 hW55
    rintro _ rfl
    refine gather_nil ?_
    refine (then_norm ?_)
    refine wc_cond (b := (!decide (chosenE a = chosenE a)) || (!decide (((n125 : Nat) : Int) = ((n132 : Nat) : Int)))) rfl (fun hc56 => ?_) (fun hc56 => ?_)
    · exfalso
      simp at hc56
      omega
    · refine wc_skip ?_
      refine (then_norm ?_)
      refine wc_seq ?_
      refine wc_seq ?_
      refine wc_region ?_
      refine wl_op rfl (op_move rfl rfl ?_)
      refine wl_op rfl (op_len_slice rfl rfl und25 rfl rfl ?_)
      refine wl_op rfl (op_move rfl rfl ?_)
      refine (wl_done (then_norm ?_))
      refine wc_block ?_
      refine wc_loop (σ := Nat × World) (fun st_ => [(0, .slice A n c), (1, .slice A2 n2 c2), (4, .bool false), (5, .slice A124 n125 c126), (6, .int .i64 (chosenE a)), (7, .slice A131 n132 c133), (55, .int .i64 ((n125 : Nat) : Int)), (56, .int .i64 (st_.1 : Int))]) (fun st_ => st_.2) (fun st_ => (st_.1 ≤ n125) ∧ (Below W54.heap.size W54 st_.2)) (fun st_ => n125 - st_.1) (0, W54) ⟨(by first | omega | (dsimp only; omega)), (Below.refl _ _)⟩ ⟨rfl, rfl, rfl, rfl, rfl, rfl, rfl, rfl, trivial⟩ rfl ?_
      rintro ⟨k, W57⟩ ⟨hk, hE58⟩
      dsimp only at hk hE58
      refine wc_at [(0, .slice A n c), (1, .slice A2 n2 c2), (4, .bool false), (5, .slice A124 n125 c126), (6, .int .i64 (chosenE a)), (7, .slice A131 n132 c133), (55, .int .i64 ((n125 : Nat) : Int)), (56, .int .i64 (k : Int))] W57 ⟨rfl, rfl, rfl, rfl, rfl, rfl, rfl, rfl, trivial⟩ rfl ?_
      refine wc_seq ?_
      refine wc_region ?_
      refine wl_op rfl (op_lss rfl rfl rfl ?_)
      refine (wl_done (then_norm ?_))
      refine wc_seq ?_
      refine wc_cond (b := decide ((k : Int) < ((n125 : Nat) : Int))) rfl (fun hc59 => ?_) (fun hc59 => ?_)
      · have hc59r := hc59
        have hc59 := of_decide_eq_true hc59
        refine wc_skip ?_
        refine (then_norm ?_)
        refine wc_seq ?_
        refine wc_block ?_
        refine wc_seq ?_
        refine wc_region ?_
        refine wl_op rfl (op_move rfl rfl ?_)
        refine wl_op rfl (op_assign rfl rfl ?_)
        refine (wl_done (then_norm ?_))
        refine wc_seq ?_
        obtain ⟨bs62, os63, hA64, hc65⟩ := hp27.flat
        have hln66 := hp27.len
        have hbd67 := hp27.bd
        obtain ⟨x_clashL_a_k, hx_clashL_a_k⟩ : ∃ x, (clashL a)[k]? = some x := ⟨_, List.getElem?_eq_getElem (by have := hp27.len; omega)⟩
        obtain ⟨bs69, os70, hA71, hc72⟩ := hp34.flat
        have hln73 := hp34.len
        have hbd74 := hp34.bd
        obtain ⟨x_clashL_a_k_2, hx_clashL_a_k_2⟩ : ∃ x, (clashL a)[k]? = some x := ⟨_, List.getElem?_eq_getElem (by have := hp34.len; omega)⟩
        refine wc_draw mixed [(0, .slice A n c), (1, .slice A2 n2 c2), (4, .bool false), (5, .slice A124 n125 c126), (6, .int .i64 (chosenE a)), (7, .slice A131 n132 c133), (55, .int .i64 ((n125 : Nat) : Int)), (56, .int .i64 (k : Int)), (57, .bool (decide ((k : Int) < ((n125 : Nat) : Int)))), (58, .int .i64 (k : Int)), (9, .int .i64 (k : Int))] ⟨rfl, rfl, rfl, rfl, rfl, rfl, rfl, rfl, rfl, rfl, rfl, trivial⟩ [fun v _ => v = .slice A124 n125 c126, fun v _ => v = .int .i64 (k : Int), fun v _ => v = .pointer (some ⟨bs62, os63 + k * 2, none⟩), fun v _ => v = .agg #[.int .i64 x_clashL_a_k.1, .int .i64 x_clashL_a_k.2], fun v _ => v = .slice A131 n132 c133, fun v _ => v = .int .i64 (k : Int), fun v _ => v = .pointer (some ⟨bs69, os70 + k * 2, none⟩), fun v _ => v = .agg #[.int .i64 x_clashL_a_k_2.1, .int .i64 x_clashL_a_k_2.2], fun v _ => v = .bool (!((decide (x_clashL_a_k.1 = x_clashL_a_k_2.1)) && (decide (x_clashL_a_k.2 = x_clashL_a_k_2.2))))] [[], [], [0, 1], [2], [], [], [4, 5], [6], [3, 7]] [0, 1, 2, 3, 4, 5, 6, 7, 8] rfl rfl rfl ⟨fun _ _ _ _ h => h, fun _ _ _ _ h => h, fun _ _ _ _ h => h, fun _ _ _ _ h => h, fun _ _ _ _ h => h, fun _ _ _ _ h => h, fun _ _ _ _ h => h, fun _ _ _ _ h => h, fun _ _ _ _ h => h, trivial⟩ ⟨?_, ?_, ?_, ?_, ?_, ?_, ?_, ?_, ?_, trivial⟩ ?_
        · intro W60 hW61
          refine gather_nil ?_
          refine opg_none rfl ?_
          exact op_move rfl rfl ⟨told rfl rfl rfl, (Below.refl _ _)⟩
        · intro W60 hW61
          refine gather_nil ?_
          refine opg_none rfl ?_
          exact op_move rfl rfl ⟨told rfl rfl rfl, (Below.refl _ _)⟩
        · intro W60 hW61
          rintro _ rfl
          rintro _ rfl
          refine gather_nil ?_
          refine opg_none rfl ?_
          exact op_indexAddr (j := k) rfl rfl und25 sz29 (hA64 (by omega)) rfl (by omega) rfl ⟨told rfl rfl rfl, (Below.refl _ _)⟩
        · intro W60 hW61
          rintro _ rfl
          refine gather_nil ?_
          refine opg_none rfl ?_
          have hB76 : Below W28.heap.size W28 W60 := (below_step (below_step (below_step (below_step (Below.refl _ _) hE36) hW55) hE58) hW61)
          exact op_loadN (vs := [.int .i64 x_clashL_a_k.1, .int .i64 x_clashL_a_k.2]) rfl agg29 sz29 rfl ((hc65 k x_clashL_a_k hx_clashL_a_k).ext hB76) rfl ⟨told rfl rfl rfl, (Below.refl _ _)⟩
        · intro W60 hW61
          refine gather_nil ?_
          refine opg_none rfl ?_
          exact op_move rfl rfl ⟨told rfl rfl rfl, (Below.refl _ _)⟩
        · intro W60 hW61
          refine gather_nil ?_
          refine opg_none rfl ?_
          exact op_move rfl rfl ⟨told rfl rfl rfl, (Below.refl _ _)⟩
        · intro W60 hW61
          rintro _ rfl
          rintro _ rfl
          refine gather_nil ?_
          refine opg_none rfl ?_
          exact op_indexAddr (j := k) rfl rfl und25 sz29 (hA71 (by omega)) rfl (by omega) rfl ⟨told rfl rfl rfl, (Below.refl _ _)⟩
        · intro W60 hW61
          rintro _ rfl
          refine gather_nil ?_
          refine opg_none rfl ?_
          have hB77 : Below W35.heap.size W35 W60 := (below_step (below_step (below_step (Below.refl _ _) hW55) hE58) hW61)
          exact op_loadN (vs := [.int .i64 x_clashL_a_k_2.1, .int .i64 x_clashL_a_k_2.2]) rfl agg29 sz29 rfl ((hc72 k x_clashL_a_k_2 hx_clashL_a_k_2).ext hB77) rfl ⟨told rfl rfl rfl, (Below.refl _ _)⟩
        · intro W60 hW61
          rintro _ rfl
          rintro _ rfl
          refine gather_nil ?_
          refine opg_none rfl ?_
          exact op_neqA (X := [.int .i64 x_clashL_a_k.1, .int .i64 x_clashL_a_k.2]) (Y := [.int .i64 x_clashL_a_k_2.1, .int .i64 x_clashL_a_k_2.2]) (b := (decide (x_clashL_a_k.1 = x_clashL_a_k_2.1)) && (decide (x_clashL_a_k.2 = x_clashL_a_k_2.2))) rfl rfl eq29 rfl rfl ⟨told rfl rfl rfl, (Below.refl _ _)⟩
        intro W78 hW79
        rintro _ rfl
        rintro _ rfl
        rintro _ rfl
        rintro _ rfl
        rintro _ rfl
        rintro _ rfl
        rintro _ rfl
        rintro _ rfl
        rintro _ rfl
        refine gather_nil ?_
        refine (then_norm ?_)
        refine wc_cond (b := !((decide (x_clashL_a_k.1 = x_clashL_a_k_2.1)) && (decide (x_clashL_a_k.2 = x_clashL_a_k_2.2)))) rfl (fun hc80 => ?_) (fun hc80 => ?_)
        · exfalso
          rw [hx_clashL_a_k] at hx_clashL_a_k_2
          cases hx_clashL_a_k_2
          simp at hc80
        · refine wc_skip ?_
          refine (block_norm (then_norm ?_))
          refine wc_region ?_
          refine wl_op rfl (op_add (r := ((k + 1 : Nat) : Int)) rfl rfl (by omega) (by omega) rfl ?_)
          refine wl_op rfl (op_move rfl rfl ?_)
          refine (wl_done (then_norm ?_))
          have hB81 : Below W54.heap.size W54 W78 := (below_step (below_step (Below.refl _ _) hE58) hW79)
          refine ⟨((k + 1), W78), ⟨(by first | omega | (dsimp only; omega)), hB81⟩, ?_, ⟨rfl, rfl, rfl, rfl, rfl, rfl, rfl, rfl, trivial⟩, rfl⟩
          · dsimp only; omega
      · have hc59r := hc59
        have hc59 := of_decide_eq_false hc59
        refine wc_exit ?_
        refine (then_exit (then_exit (block_here (then_norm ?_))))
        refine wc_seq ?_
        refine wc_region ?_
        refine wl_op rfl (op_move rfl rfl ?_)
        refine wl_op rfl (op_move rfl rfl ?_)
        have hB82 : Below w.heap.size w W57 := (below_step (below_step (below_step hB30 hE36) hW55) hE58)
        refine wl_op rfl (op_call ent10 rfl (Agree_spec (hs.ext (flat_lifts _) hB82) (hs2.ext (flat_lifts _) hB82) (by omega) (by omega)) rfl ?_)
        rintro _ W87 ⟨A183, n184, c185, rfl, hp86, hE88⟩
        refine wl_op rfl (op_move rfl rfl ?_)
        refine wl_op rfl (op_extract (v := .slice A183 n184 c185) rfl rfl rfl ?_)
        refine wl_op rfl (op_extract (v := .int .i64 ((agree a b).2.1)) rfl rfl rfl ?_)
        refine wl_op rfl (op_extract (v := .int .i64 ((agree a b).2.2)) rfl rfl rfl ?_)
        refine wl_op rfl (op_assign rfl rfl ?_)
        refine wl_op rfl (op_assign rfl rfl ?_)
        refine wl_op rfl (op_assign rfl rfl ?_)
        refine (wl_done (then_norm ?_))
        refine WC.sub [(0, .slice A n c), (1, .slice A2 n2 c2), (4, .bool false), (5, .slice A124 n125 c126), (6, .int .i64 (chosenE a)), (10, .slice A183 n184 c185), (11, .int .i64 ((agree a b).2.1)), (12, .int .i64 ((agree a b).2.2))] ⟨rfl, rfl, rfl, rfl, rfl, rfl, rfl, rfl, trivial⟩ ?_
        refine wc_seq ?_
        refine wc_region ?_
        refine wl_op rfl (op_move rfl rfl ?_)
        refine wl_op rfl (op_move rfl rfl ?_)
        have hB89 : Below w.heap.size w W87 := (below_step hB82 hE88)
        refine wl_op rfl (op_call ent11 rfl (rAgree_spec (hs.ext (flat_lifts _) hB89) (hs2.ext (flat_lifts _) hB89) (by omega) (by omega)) rfl ?_)
        rintro _ W94 ⟨A190, n191, c192, rfl, hp93, hE95⟩
        refine wl_op rfl (op_move rfl rfl ?_)
        refine wl_op rfl (op_extract (v := .slice A190 n191 c192) rfl rfl rfl ?_)
        refine wl_op rfl (op_extract (v := .int .i64 ((agree a b).2.1)) rfl rfl rfl ?_)
        refine wl_op rfl (op_extract (v := .int .i64 ((agree a b).2.2)) rfl rfl rfl ?_)
        refine wl_op rfl (op_assign rfl rfl ?_)
        refine wl_op rfl (op_assign rfl rfl ?_)
        refine wl_op rfl (op_assign rfl rfl ?_)
        refine (wl_done (then_norm ?_))
        refine WC.sub [(0, .slice A n c), (1, .slice A2 n2 c2), (4, .bool false), (5, .slice A124 n125 c126), (6, .int .i64 (chosenE a)), (10, .slice A183 n184 c185), (11, .int .i64 ((agree a b).2.1)), (12, .int .i64 ((agree a b).2.2)), (13, .slice A190 n191 c192), (14, .int .i64 ((agree a b).2.1)), (15, .int .i64 ((agree a b).2.2))] ⟨rfl, rfl, rfl, rfl, rfl, rfl, rfl, rfl, rfl, rfl, rfl, trivial⟩ ?_
        refine wc_seq ?_
        refine wc_seq ?_
        refine wc_text [(0, .slice A n c), (1, .slice A2 n2 c2), (4, .bool false), (5, .slice A124 n125 c126), (6, .int .i64 (chosenE a)), (10, .slice A183 n184 c185), (11, .int .i64 ((agree a b).2.1)), (12, .int .i64 ((agree a b).2.2)), (13, .slice A190 n191 c192), (14, .int .i64 ((agree a b).2.1)), (15, .int .i64 ((agree a b).2.2))] ⟨rfl, rfl, rfl, rfl, rfl, rfl, rfl, rfl, rfl, rfl, rfl, trivial⟩ [fun v _ => v = .slice A183 n184 c185, fun v _ => v = .slice A190 n191 c192, fun v _ => v = .bool (decide (((agree a b).1) = ((agree a b).1))), fun v _ => v = .bool (!(decide (((agree a b).1) = ((agree a b).1)))), fun v _ => v = .bool (!(decide (((agree a b).1) = ((agree a b).1)))), fun v _ => v = (bif (!(!(decide (((agree a b).1) = ((agree a b).1))))) then (.int .i64 ((agree a b).2.1)) else undef), fun v _ => v = (bif (!(!(decide (((agree a b).1) = ((agree a b).1))))) then (.int .i64 ((agree a b).2.1)) else undef), fun v _ => v = (bif (!(!(decide (((agree a b).1) = ((agree a b).1))))) then (.bool (!decide ((agree a b).2.1 = (agree a b).2.1))) else undef), fun v _ => v = .bool ((!(decide (((agree a b).1) = ((agree a b).1)))) || (!decide ((agree a b).2.1 = (agree a b).2.1))), fun v _ => v = .bool ((!(decide (((agree a b).1) = ((agree a b).1)))) || (!decide ((agree a b).2.1 = (agree a b).2.1))), fun v _ => v = (bif (!((!(decide (((agree a b).1) = ((agree a b).1)))) || (!decide ((agree a b).2.1 = (agree a b).2.1)))) then (.int .i64 ((agree a b).2.2)) else undef), fun v _ => v = (bif (!((!(decide (((agree a b).1) = ((agree a b).1)))) || (!decide ((agree a b).2.1 = (agree a b).2.1)))) then (.int .i64 ((agree a b).2.2)) else undef), fun v _ => v = (bif (!((!(decide (((agree a b).1) = ((agree a b).1)))) || (!decide ((agree a b).2.1 = (agree a b).2.1)))) then (.bool (!decide ((agree a b).2.2 = (agree a b).2.2))) else undef), fun v _ => v = .bool (((!(decide (((agree a b).1) = ((agree a b).1)))) || (!decide ((agree a b).2.1 = (agree a b).2.1))) || (!decide ((agree a b).2.2 = (agree a b).2.2)))] [[], [], [0, 1], [2], [3], [4], [4], [4, 5, 6], [4, 7], [8], [9], [9], [9, 10, 11], [9, 12]] [13] rfl rfl rfl ⟨fun _ _ _ _ h => h, fun _ _ _ _ h => h, fun _ _ _ _ h => h, fun _ _ _ _ h => h, fun _ _ _ _ h => h, fun _ _ _ _ h => h, fun _ _ _ _ h => h, fun _ _ _ _ h => h, fun _ _ _ _ h => h, fun _ _ _ _ h => h, fun _ _ _ _ h => h, fun _ _ _ _ h => h, fun _ _ _ _ h => h, fun _ _ _ _ h => h, trivial⟩ ⟨?_, ?_, ?_, ?_, ?_, ?_, ?_, ?_, ?_, ?_, ?_, ?_, ?_, ?_, trivial⟩ ?_
        · intro W96 hW97
          refine gather_nil ?_
          refine opg_none rfl ?_
          exact op_move rfl rfl ⟨told rfl rfl rfl, (Below.refl _ _)⟩
        · intro W96 hW97
          refine gather_nil ?_
          refine opg_none rfl ?_
          exact op_move rfl rfl ⟨told rfl rfl rfl, (Below.refl _ _)⟩
        · intro W96 hW97
          rintro _ rfl
          rintro _ rfl
          refine gather_nil ?_
          refine opg_none rfl ?_
          have hB100 : Below W87.heap.size W87 W96 := (below_step (below_step (Below.refl _ _) hE95) hW97)
          have hB101 : Below W94.heap.size W94 W96 := (below_step (Below.refl _ _) hW97)
          refine op_call ent12 rfl (same_spec (hp86.ext (flat_lifts _) hB100) (hp93.ext (flat_lifts _) hB101)) rfl ?_
          rintro _ W102 ⟨rfl, hE103⟩
          exact ⟨told rfl rfl rfl, hE103⟩
        · intro W96 hW97
          rintro _ rfl
          refine gather_nil ?_
          refine opg_none rfl ?_
          exact op_not rfl rfl ⟨told rfl rfl rfl, (Below.refl _ _)⟩
        · intro W96 hW97
          rintro _ rfl
          refine gather_nil ?_
          refine opg_none rfl ?_
          exact op_move rfl rfl ⟨told rfl rfl rfl, (Below.refl _ _)⟩
        · intro W96 hW97
          rintro _ rfl
          refine gather_nil ?_
          refine opg_f1 rfl rfl (fun hg104 => ?_) (fun h => by rw [h, cond_false])
          exact op_move rfl rfl ⟨told rfl rfl (by rw [hg104, cond_true]), (Below.refl _ _)⟩
        · intro W96 hW97
          rintro _ rfl
          refine gather_nil ?_
          refine opg_f1 rfl rfl (fun hg105 => ?_) (fun h => by rw [h, cond_false])
          exact op_move rfl rfl ⟨told rfl rfl (by rw [hg105, cond_true]), (Below.refl _ _)⟩
        · intro W96 hW97
          rintro _ rfl
          intro v106 (hv107 : v106 = bif (!(!(decide (((agree a b).1) = ((agree a b).1))))) then (.int .i64 ((agree a b).2.1)) else undef)
          intro v108 (hv109 : v108 = bif (!(!(decide (((agree a b).1) = ((agree a b).1))))) then (.int .i64 ((agree a b).2.1)) else undef)
          refine gather_nil ?_
          refine opg_f1 rfl rfl (fun hg110 => ?_) (fun h => by rw [h, cond_false])
          obtain rfl : v106 = .int .i64 ((agree a b).2.1) := by rw [hv107, hg110, cond_true]
          obtain rfl : v108 = .int .i64 ((agree a b).2.1) := by rw [hv109, hg110, cond_true]
          exact op_neq rfl rfl rfl ⟨told rfl rfl (by rw [hg110, cond_true]), (Below.refl _ _)⟩
        · intro W96 hW97
          rintro _ rfl
          intro v111 (hv112 : v111 = bif (!(!(decide (((agree a b).1) = ((agree a b).1))))) then (.bool (!decide ((agree a b).2.1 = (agree a b).2.1))) else undef)
          refine gather_nil ?_
          refine opg_none rfl ?_
          exact op_or rfl rfl rfl (fun h => by rw [hv112, (not_i h), cond_true]) rfl ⟨told rfl rfl rfl, (Below.refl _ _)⟩
        · intro W96 hW97
          rintro _ rfl
          refine gather_nil ?_
          refine opg_none rfl ?_
          exact op_move rfl rfl ⟨told rfl rfl rfl, (Below.refl _ _)⟩
        · intro W96 hW97
          rintro _ rfl
          refine gather_nil ?_
          refine opg_f1 rfl rfl (fun hg113 => ?_) (fun h => by rw [h, cond_false])
          exact op_move rfl rfl ⟨told rfl rfl (by rw [hg113, cond_true]), (Below.refl _ _)⟩
        · intro W96 hW97
          rintro _ rfl
          refine gather_nil ?_
          refine opg_f1 rfl rfl (fun hg114 => ?_) (fun h => by rw [h, cond_false])
          exact op_move rfl rfl ⟨told rfl rfl (by rw [hg114, cond_true]), (Below.refl _ _)⟩
        · intro W96 hW97
          rintro _ rfl
          intro v115 (hv116 : v115 = bif (!((!(decide (((agree a b).1) = ((agree a b).1)))) || (!decide ((agree a b).2.1 = (agree a b).2.1)))) then (.int .i64 ((agree a b).2.2)) else undef)
          intro v117 (hv118 : v117 = bif (!((!(decide (((agree a b).1) = ((agree a b).1)))) || (!decide ((agree a b).2.1 = (agree a b).2.1)))) then (.int .i64 ((agree a b).2.2)) else undef)
          refine gather_nil ?_
          refine opg_f1 rfl rfl (fun hg119 => ?_) (fun h => by rw [h, cond_false])
          obtain rfl : v115 = .int .i64 ((agree a b).2.2) := by rw [hv116, hg119, cond_true]
          obtain rfl : v117 = .int .i64 ((agree a b).2.2) := by rw [hv118, hg119, cond_true]
          exact op_neq rfl rfl rfl ⟨told rfl rfl (by rw [hg119, cond_true]), (Below.refl _ _)⟩
        · intro W96 hW97
          rintro _ rfl
          intro v120 (hv121 : v120 = bif (!((!(decide (((agree a b).1) = ((agree a b).1)))) || (!decide ((agree a b).2.1 = (agree a b).2.1)))) then (.bool (!decide ((agree a b).2.2 = (agree a b).2.2))) else undef)
          refine gather_nil ?_
          refine opg_none rfl ?_
          exact op_or rfl rfl rfl (fun h => by rw [hv121, (not_i h), cond_true]) rfl ⟨told rfl rfl rfl, (Below.refl _ _)⟩
        intro W122 hW123
        rintro _ rfl
        refine gather_nil ?_
        refine (then_norm ?_)
        refine wc_cond (b := ((!(decide (((agree a b).1) = ((agree a b).1)))) || (!decide ((agree a b).2.1 = (agree a b).2.1))) || (!decide ((agree a b).2.2 = (agree a b).2.2))) rfl (fun hc124 => ?_) (fun hc124 => ?_)
        · exfalso
          simp at hc124
        · refine wc_skip ?_
          refine (then_norm ?_)
          refine wc_seq ?_
          refine wc_seq ?_
          refine wc_region ?_
          refine wl_op rfl (op_move rfl rfl ?_)
          refine wl_op rfl (op_neq rfl rfl rfl ?_)
          refine (wl_done (then_norm ?_))
          refine WC.sub [(0, .slice A n c), (1, .slice A2 n2 c2), (4, .bool false), (5, .slice A124 n125 c126), (6, .int .i64 (chosenE a)), (10, .slice A183 n184 c185), (98, .bool (!decide ((agree a b).2.2 = 0)))] ⟨rfl, rfl, rfl, rfl, rfl, rfl, rfl, trivial⟩ ?_
          refine wc_cond (b := !decide ((agree a b).2.2 = 0)) rfl (fun hc125 => ?_) (fun hc125 => ?_)
          · have hc125r := hc125
            have hc125 := of_decide_eq_false (not_t hc125)
            refine wc_seq ?_
            refine wc_region ?_
            refine wl_op rfl (op_call ent7 rfl (awake_spec) rfl ?_)
            rintro _ W126 ⟨rfl, hE127⟩
            refine wl_op rfl (op_assign rfl rfl ?_)
            refine (wl_done (then_norm ?_))
            refine wc_ret ?_
            refine (then_ret ?_)
            have hB128 : Below w.heap.size w W126 := (below_step (below_step (below_step hB89 hE95) hW123) hE127)
            refine ⟨[_], ⟨rfl, trivial⟩, ⟨?_, hB128⟩⟩
            exact rfl
          · have hc125r := hc125
            have hc125 := of_decide_eq_true (not_f hc125)
            refine wc_skip ?_
            refine (then_norm ?_)
            refine wc_seq ?_
            refine wc_seq ?_
            refine wc_region ?_
            refine wl_op rfl (op_move rfl rfl ?_)
            have hB129 : Below W87.heap.size W87 W122 := (below_step (below_step (Below.refl _ _) hE95) hW123)
            refine wl_op rfl (op_call ent8 rfl (Clashes_spec (hp86.ext (flat_lifts _) hB129)) rfl ?_)
            rintro _ W134 ⟨A1130, n1131, c1132, rfl, hp133, hE135⟩
            have hlen_X := hp133.len
            rw [okX_clash hc125] at hlen_X
            have hlen_X0 : 0 = n1131 := hlen_X
            refine wl_op rfl (op_move rfl rfl ?_)
            refine wl_op rfl (op_extract (v := .slice A1130 n1131 c1132) rfl rfl rfl ?_)
            refine wl_op rfl (op_extract (v := .int .i64 (chosenE ((agree a b).1))) rfl rfl rfl ?_)
            refine wl_op rfl (op_assign rfl rfl ?_)
            refine wl_op rfl (op_assign rfl rfl ?_)
            refine (wl_done (then_norm ?_))
            refine WC.sub [(0, .slice A n c), (1, .slice A2 n2 c2), (4, .bool false), (5, .slice A1130 n1131 c1132), (6, .int .i64 (chosenE ((agree a b).1))), (10, .slice A183 n184 c185)] ⟨rfl, rfl, rfl, rfl, rfl, rfl, trivial⟩ ?_
            refine wc_seq ?_
            refine wc_text [(0, .slice A n c), (1, .slice A2 n2 c2), (4, .bool false), (5, .slice A1130 n1131 c1132), (6, .int .i64 (chosenE ((agree a b).1))), (10, .slice A183 n184 c185)] ⟨rfl, rfl, rfl, rfl, rfl, rfl, trivial⟩ [fun v _ => v = .int .i64 (chosenE ((agree a b).1)), fun v _ => v = .bool (!decide (chosenE ((agree a b).1) = 0)), fun v _ => v = .bool (!decide (chosenE ((agree a b).1) = 0)), fun v _ => v = (bif (!(!decide (chosenE ((agree a b).1) = 0))) then (.slice A1130 n1131 c1132) else undef), fun v _ => v = (bif (!(!decide (chosenE ((agree a b).1) = 0))) then (.int .i64 ((n1131 : Nat) : Int)) else undef), fun v _ => v = (bif (!(!decide (chosenE ((agree a b).1) = 0))) then (.bool (!decide (((n1131 : Nat) : Int) = 0))) else undef), fun v _ => v = .bool ((!decide (chosenE ((agree a b).1) = 0)) || (!decide (((n1131 : Nat) : Int) = 0)))] [[], [0], [1], [2], [2, 3], [2, 4], [2, 5]] [6] rfl rfl rfl ⟨fun _ _ _ _ h => h, fun _ _ _ _ h => h, fun _ _ _ _ h => h, fun _ _ _ _ h => h, fun _ _ _ _ h => h, fun _ _ _ _ h => h, fun _ _ _ _ h => h, trivial⟩ ⟨?_, ?_, ?_, ?_, ?_, ?_, ?_, trivial⟩ ?_
            · intro W136 hW137
              refine gather_nil ?_
              refine opg_none rfl ?_
              exact op_move rfl rfl ⟨told rfl rfl rfl, (Below.refl _ _)⟩
            · intro W136 hW137
              rintro _ rfl
              refine gather_nil ?_
              refine opg_none rfl ?_
              exact op_neq rfl rfl rfl ⟨told rfl rfl rfl, (Below.refl _ _)⟩
            · intro W136 hW137
              rintro _ rfl
              refine gather_nil ?_
              refine opg_none rfl ?_
              exact op_move rfl rfl ⟨told rfl rfl rfl, (Below.refl _ _)⟩
            · intro W136 hW137
              rintro _ rfl
              refine gather_nil ?_
              refine opg_f1 rfl rfl (fun hg138 => ?_) (fun h => by rw [h, cond_false])
              exact op_move rfl rfl ⟨told rfl rfl (by rw [hg138, cond_true]), (Below.refl _ _)⟩
            · intro W136 hW137
              rintro _ rfl
              intro v139 (hv140 : v139 = bif (!(!decide (chosenE ((agree a b).1) = 0))) then (.slice A1130 n1131 c1132) else undef)
              refine gather_nil ?_
              refine opg_f1 rfl rfl (fun hg141 => ?_) (fun h => by rw [h, cond_false])
              obtain rfl : v139 = .slice A1130 n1131 c1132 := by rw [hv140, hg141, cond_true]
              exact op_len_slice rfl rfl und25 rfl rfl ⟨told rfl rfl (by rw [hg141, cond_true]), (Below.refl _ _)⟩
            · intro W136 hW137
              rintro _ rfl
              intro v142 (hv143 : v142 = bif (!(!decide (chosenE ((agree a b).1) = 0))) then (.int .i64 ((n1131 : Nat) : Int)) else undef)
              refine gather_nil ?_
              refine opg_f1 rfl rfl (fun hg144 => ?_) (fun h => by rw [h, cond_false])
              obtain rfl : v142 = .int .i64 ((n1131 : Nat) : Int) := by rw [hv143, hg144, cond_true]
              exact op_neq rfl rfl rfl ⟨told rfl rfl (by rw [hg144, cond_true]), (Below.refl _ _)⟩
            · intro W136 hW137
              rintro _ rfl
              intro v145 (hv146 : v145 = bif (!(!decide (chosenE ((agree a b).1) = 0))) then (.bool (!decide (((n1131 : Nat) : Int) = 0))) else undef)
              refine gather_nil ?_
              refine opg_none rfl ?_
              exact op_or rfl rfl rfl (fun h => by rw [hv146, (not_i h), cond_true]) rfl ⟨told rfl rfl rfl, (Below.refl _ _)⟩
            intro W147 hW148
            rintro _ rfl
            refine gather_nil ?_
            refine (then_norm ?_)
            refine wc_cond (b := (!decide (chosenE ((agree a b).1) = 0)) || (!decide (((n1131 : Nat) : Int) = 0))) rfl (fun hc149 => ?_) (fun hc149 => ?_)
            · exfalso
              rw [okX_E hc125] at hc149
              simp at hc149
              omega
            · refine wc_skip ?_
              refine (then_norm ?_)
              refine wc_seq ?_
              refine wc_seq ?_
              refine wc_region ?_
              refine wl_op rfl (op_move rfl rfl ?_)
              refine wl_op rfl (op_move rfl rfl ?_)
              refine wl_op rfl (op_buildSlice (cs := #[.slice A n c, .slice A2 n2 c2]) (e := 22) rfl (fun w => by kernel_rfl) rfl ?_)
              intro W150 b151 hN152
              have hb153 : W150.heap[b151]? = some (.cells #[.slice A n c, .slice A2 n2 c2] 22 (0, 0)) := hN152.blk
              have hrd154 : RdH W150 (some ⟨b151, 0, none⟩) 2 [(⟨A, n, c⟩ : Hdr), (⟨A2, n2, c2⟩ : Hdr)] := (rd_of_blk (enc := encH) [(⟨A, n, c⟩ : Hdr), (⟨A2, n2, c2⟩ : Hdr)] hb153 (fun _ => rfl) rfl rfl rfl)
              refine wl_op rfl (op_len_slice rfl rfl und33 rfl rfl ?_)
              refine wl_op rfl (op_move rfl rfl ?_)
              refine (wl_done (then_norm ?_))
              refine WC.sub [(4, .bool false), (10, .slice A183 n184 c185), (114, .slice (some ⟨b151, 0, none⟩) 2 2), (115, .int .i64 2), (116, .int .i64 0)] ⟨rfl, rfl, rfl, rfl, rfl, trivial⟩ ?_
              refine wc_block ?_
              refine wc_loop (σ := Nat × World) (fun st_ => [(4, .bool false), (10, .slice A183 n184 c185), (114, .slice (some ⟨b151, 0, none⟩) 2 2), (115, .int .i64 2), (116, .int .i64 (st_.1 : Int))]) (fun st_ => st_.2) (fun st_ => (st_.1 ≤ 2) ∧ (Below W150.heap.size W150 st_.2)) (fun st_ => 2 - st_.1) (0, W150) ⟨(by first | omega | (dsimp only; omega)), (Below.refl _ _)⟩ ⟨rfl, rfl, rfl, rfl, rfl, trivial⟩ rfl ?_
              rintro ⟨k, W155⟩ ⟨hk, hE156⟩
              dsimp only at hk hE156
              refine wc_at [(4, .bool false), (10, .slice A183 n184 c185), (114, .slice (some ⟨b151, 0, none⟩) 2 2), (115, .int .i64 2), (116, .int .i64 (k : Int))] W155 ⟨rfl, rfl, rfl, rfl, rfl, trivial⟩ rfl ?_
              refine wc_seq ?_
              refine wc_region ?_
              refine wl_op rfl (op_lss rfl rfl rfl ?_)
              refine (wl_done (then_norm ?_))
              refine wc_seq ?_
              refine wc_cond (b := decide ((k : Int) < 2)) rfl (fun hc157 => ?_) (fun hc157 => ?_)
              · have hc157r := hc157
                have hc157 := of_decide_eq_true hc157
                refine wc_skip ?_
                refine (then_norm ?_)
                refine wc_seq ?_
                refine wc_block ?_
                refine wc_seq ?_
                refine wc_region ?_
                obtain ⟨bs158, os159, hA160, hc161⟩ := hrd154.flat
                have hln162 := hrd154.len
                have hbd163 := hrd154.bd
                obtain ⟨x_hrd154_k, hx_hrd154_k⟩ : ∃ x, [(⟨A, n, c⟩ : Hdr), (⟨A2, n2, c2⟩ : Hdr)][k]? = some x := ⟨_, List.getElem?_eq_getElem (by have := hrd154.len; omega)⟩
                refine wl_op rfl (op_indexAddr (j := k) rfl rfl und33 sz22 (hA160 (by omega)) rfl (by omega) rfl ?_)
                have hB164 : Below W150.heap.size W150 W155 := (below_step (Below.refl _ _) hE156)
                refine wl_op rfl (op_load1 (v := .slice x_hrd154_k.A x_hrd154_k.n x_hrd154_k.c) rfl agg22 (((hc161 k x_hrd154_k hx_hrd154_k).ext hB164).at (i := 0) rfl) rfl ?_)
                have hB165 : Below w.heap.size w W155 := (below_step (below_new (below_step (below_step (below_step (below_step hB89 hE95) hW123) hE135) hW148) hN152) hE156)
                obtain ⟨sx, hsx, hsab⟩ := hdr_pick (two_of hx_hrd154_k) (hs.ext (flat_lifts _) hB165) (hs2.ext (flat_lifts _) hB165)
                have hlen_sx := hsx.len
                refine wl_op rfl (op_assign rfl rfl ?_)
                refine (wl_done (then_norm ?_))
                refine wc_seq ?_
                refine wc_seq ?_
                refine wc_region ?_
                refine wl_op rfl (op_buildSlice (cs := #[.int .i64 8, .int .i64 9]) (e := 3) rfl (fun w => by kernel_rfl) rfl ?_)
                intro W166 b167 hN168
                have hb169 : W166.heap[b167]? = some (.cells #[.int .i64 8, .int .i64 9] 3 (0, 0)) := hN168.blk
                have hrd170 : RdI W166 (some ⟨b167, 0, none⟩) 2 [(8 : Int), (9 : Int)] := (rd_of_blk (enc := encI) [(8 : Int), (9 : Int)] hb169 (fun _ => rfl) rfl rfl rfl)
                refine wl_op rfl (op_len_slice rfl rfl und34 rfl rfl ?_)
                refine wl_op rfl (op_move rfl rfl ?_)
                refine (wl_done (then_norm ?_))
                refine wc_block ?_
                refine wc_loop (σ := Nat × World) (fun st_ => [(4, .bool false), (10, .slice A183 n184 c185), (17, .slice x_hrd154_k.A x_hrd154_k.n x_hrd154_k.c), (114, .slice (some ⟨b151, 0, none⟩) 2 2), (115, .int .i64 2), (116, .int .i64 (k : Int)), (117, .bool (decide ((k : Int) < 2))), (118, .pointer (some ⟨bs158, os159 + k * 1, none⟩)), (119, .slice x_hrd154_k.A x_hrd154_k.n x_hrd154_k.c), (120, .slice (some ⟨b167, 0, none⟩) 2 2), (121, .int .i64 2), (122, .int .i64 (st_.1 : Int))]) (fun st_ => st_.2) (fun st_ => (st_.1 ≤ 2) ∧ (Below W166.heap.size W166 st_.2)) (fun st_ => 2 - st_.1) (0, W166) ⟨(by first | omega | (dsimp only; omega)), (Below.refl _ _)⟩ ⟨rfl, rfl, rfl, rfl, rfl, rfl, rfl, rfl, rfl, rfl, rfl, rfl, trivial⟩ rfl ?_
                rintro ⟨j, W171⟩ ⟨hj, hE172⟩
                dsimp only at hj hE172
                refine wc_at [(4, .bool false), (10, .slice A183 n184 c185), (17, .slice x_hrd154_k.A x_hrd154_k.n x_hrd154_k.c), (114, .slice (some ⟨b151, 0, none⟩) 2 2), (115, .int .i64 2), (116, .int .i64 (k : Int)), (117, .bool (decide ((k : Int) < 2))), (118, .pointer (some ⟨bs158, os159 + k * 1, none⟩)), (119, .slice x_hrd154_k.A x_hrd154_k.n x_hrd154_k.c), (120, .slice (some ⟨b167, 0, none⟩) 2 2), (121, .int .i64 2), (122, .int .i64 (j : Int))] W171 ⟨rfl, rfl, rfl, rfl, rfl, rfl, rfl, rfl, rfl, rfl, rfl, rfl, trivial⟩ rfl ?_
                refine wc_seq ?_
                refine wc_region ?_
                refine wl_op rfl (op_lss rfl rfl rfl ?_)
                refine (wl_done (then_norm ?_))
                refine wc_seq ?_
                refine wc_cond (b := decide ((j : Int) < 2)) rfl (fun hc173 => ?_) (fun hc173 => ?_)
                · have hc173r := hc173
                  have hc173 := of_decide_eq_true hc173
                  refine wc_skip ?_
                  refine (then_norm ?_)
                  refine wc_seq ?_
                  refine wc_block ?_
                  refine wc_seq ?_
                  refine wc_region ?_
                  obtain ⟨bs174, os175, hA176, hc177⟩ := hrd170.flat
                  have hln178 := hrd170.len
                  have hbd179 := hrd170.bd
                  obtain ⟨x_8_Int_9_Int_j, hx_8_Int_9_Int_j⟩ : ∃ x, [(8 : Int), (9 : Int)][j]? = some x := ⟨_, List.getElem?_eq_getElem (by have := hrd170.len; omega)⟩
                  refine wl_op rfl (op_indexAddr (j := j) rfl rfl und34 sz3 (hA176 (by omega)) rfl (by omega) rfl ?_)
                  have hB180 : Below W166.heap.size W166 W171 := (below_step (Below.refl _ _) hE172)
                  refine wl_op rfl (op_load1 (v := .int .i64 x_8_Int_9_Int_j) rfl agg3 (((hc177 j x_8_Int_9_Int_j hx_8_Int_9_Int_j).ext hB180).at (i := 0) rfl) rfl ?_)
                  have hk89 := two_of hx_8_Int_9_Int_j
                  refine wl_op rfl (op_assign rfl rfl ?_)
                  refine (wl_done (then_norm ?_))
                  refine wc_seq ?_
                  refine wc_region ?_
                  refine wl_op rfl (op_move rfl rfl ?_)
                  refine wl_op rfl (op_move rfl rfl ?_)
                  have hB181 : Below W155.heap.size W155 W171 := (below_step (below_new (Below.refl _ _) hN168) hE172)
                  refine wl_op rfl (op_call ent13 rfl (Get_spec (hsx.ext (flat_lifts _) hB181)) rfl ?_)
                  rintro _ W182 ⟨rfl, hE183⟩
                  refine wl_op rfl (op_move rfl rfl ?_)
                  refine wl_op rfl (op_extract (v := .int .i64 (getV sx x_8_Int_9_Int_j)) rfl rfl rfl ?_)
                  refine wl_op rfl (op_extract (v := .int .i64 (getE sx x_8_Int_9_Int_j)) rfl rfl rfl ?_)
                  refine wl_op rfl (op_assign rfl rfl ?_)
                  refine wl_op rfl (op_assign rfl rfl ?_)
                  refine (wl_done (then_norm ?_))
                  refine wc_seq ?_
                  refine wc_region ?_
                  refine wl_op rfl (op_move rfl rfl ?_)
                  refine wl_op rfl (op_move rfl rfl ?_)
                  have hB184 : Below W87.heap.size W87 W182 := (below_step (below_step (below_new (below_step (below_new (below_step (below_step hB129 hE135) hW148) hN152) hE156) hN168) hE172) hE183)
                  refine wl_op rfl (op_call ent13 rfl (Get_spec (hp86.ext (flat_lifts _) hB184)) rfl ?_)
                  rintro _ W185 ⟨rfl, hE186⟩
                  refine wl_op rfl (op_move rfl rfl ?_)
                  refine wl_op rfl (op_extract (v := .int .i64 (getV ((agree a b).1) x_8_Int_9_Int_j)) rfl rfl rfl ?_)
                  refine wl_op rfl (op_extract (v := .int .i64 (getE ((agree a b).1) x_8_Int_9_Int_j)) rfl rfl rfl ?_)
                  refine wl_op rfl (op_assign rfl rfl ?_)
                  refine wl_op rfl (op_assign rfl rfl ?_)
                  refine (wl_done (then_norm ?_))
                  refine wc_seq ?_
                  refine wc_region ?_
                  refine wl_op rfl (op_move rfl rfl ?_)
                  refine wl_op rfl (op_move rfl rfl ?_)
                  refine wl_op rfl (op_call ent14 rfl (rStrength_spec) rfl ?_)
                  rintro _ W187 ⟨rfl, hE188⟩
                  refine wl_op rfl (op_move rfl rfl ?_)
                  refine wl_op rfl (op_move rfl rfl ?_)
                  refine wl_op rfl (op_call ent14 rfl (rStrength_spec) rfl ?_)
                  rintro _ W189 ⟨rfl, hE190⟩
                  refine wl_op rfl (op_lss rfl rfl rfl ?_)
                  refine (wl_done (then_norm ?_))
                  refine wc_cond (b := decide (strengthR x_8_Int_9_Int_j (getV ((agree a b).1) x_8_Int_9_Int_j) < strengthR x_8_Int_9_Int_j (getV sx x_8_Int_9_Int_j))) rfl (fun hc191 => ?_) (fun hc191 => ?_)
                  · have hc191r := hc191
                    have hc191 := of_decide_eq_true hc191
                    exact absurd hc191 (strong_ok hc125 hsab hk89)
                  · have hc191r := hc191
                    have hc191 := of_decide_eq_false hc191
                    refine wc_skip ?_
                    refine (block_norm (then_norm ?_))
                    refine wc_region ?_
                    refine wl_op rfl (op_add (r := ((j + 1 : Nat) : Int)) rfl rfl (by omega) (by omega) rfl ?_)
                    refine wl_op rfl (op_move rfl rfl ?_)
                    refine (wl_done (then_norm ?_))
                    have hB192 : Below W166.heap.size W166 W189 := (below_step (below_step (below_step (below_step hB180 hE183) hE186) hE188) hE190)
                    refine ⟨((j + 1), W189), ⟨(by first | omega | (dsimp only; omega)), hB192⟩, ?_, ⟨rfl, rfl, rfl, rfl, rfl, rfl, rfl, rfl, rfl, rfl, rfl, rfl, trivial⟩, rfl⟩
                    · dsimp only; omega
                · have hc173r := hc173
                  have hc173 := of_decide_eq_false hc173
                  refine wc_exit ?_
                  refine (then_exit (then_exit (block_here (then_norm ?_))))
                  refine wc_seq ?_
                  refine wc_region ?_
                  refine wl_op rfl (op_move rfl rfl ?_)
                  have hB193 : Below W155.heap.size W155 W171 := (below_step (below_new (Below.refl _ _) hN168) hE172)
                  refine wl_op rfl (op_call ent13 rfl (Get_spec (hsx.ext (flat_lifts _) hB193)) rfl ?_)
                  rintro _ W194 ⟨rfl, hE195⟩
                  refine wl_op rfl (op_move rfl rfl ?_)
                  refine wl_op rfl (op_extract (v := .int .i64 (getV sx 10)) rfl rfl rfl ?_)
                  refine wl_op rfl (op_extract (v := .int .i64 (getE sx 10)) rfl rfl rfl ?_)
                  refine wl_op rfl (op_assign rfl rfl ?_)
                  refine wl_op rfl (op_assign rfl rfl ?_)
                  refine (wl_done (then_norm ?_))
                  refine wc_seq ?_
                  refine wc_region ?_
                  refine wl_op rfl (op_move rfl rfl ?_)
                  have hB196 : Below W87.heap.size W87 W194 := (below_step (below_step (below_new (below_step (below_new (below_step (below_step hB129 hE135) hW148) hN152) hE156) hN168) hE172) hE195)
                  refine wl_op rfl (op_call ent13 rfl (Get_spec (hp86.ext (flat_lifts _) hB196)) rfl ?_)
                  rintro _ W197 ⟨rfl, hE198⟩
                  refine wl_op rfl (op_move rfl rfl ?_)
                  refine wl_op rfl (op_extract (v := .int .i64 (getV ((agree a b).1) 10)) rfl rfl rfl ?_)
                  refine wl_op rfl (op_extract (v := .int .i64 (getE ((agree a b).1) 10)) rfl rfl rfl ?_)
                  refine wl_op rfl (op_assign rfl rfl ?_)
                  refine wl_op rfl (op_assign rfl rfl ?_)
                  refine (wl_done (then_norm ?_))
                  refine wc_seq ?_
                  refine wc_text [(4, .bool false), (10, .slice A183 n184 c185), (17, .slice x_hrd154_k.A x_hrd154_k.n x_hrd154_k.c), (114, .slice (some ⟨b151, 0, none⟩) 2 2), (115, .int .i64 2), (116, .int .i64 (k : Int)), (117, .bool (decide ((k : Int) < 2))), (118, .pointer (some ⟨bs158, os159 + k * 1, none⟩)), (119, .slice x_hrd154_k.A x_hrd154_k.n x_hrd154_k.c), (120, .slice (some ⟨b167, 0, none⟩) 2 2), (121, .int .i64 2), (122, .int .i64 (j : Int)), (123, .bool (decide ((j : Int) < 2))), (147, .slice x_hrd154_k.A x_hrd154_k.n x_hrd154_k.c), (148, .tuple #[.int .i64 (getV sx 10), .int .i64 (getE sx 10)]), (146, .tuple #[.int .i64 (getV sx 10), .int .i64 (getE sx 10)]), (149, .int .i64 (getV sx 10)), (150, .int .i64 (getE sx 10)), (24, .int .i64 (getV sx 10)), (152, .slice A183 n184 c185), (153, .tuple #[.int .i64 (getV ((agree a b).1) 10), .int .i64 (getE ((agree a b).1) 10)]), (151, .tuple #[.int .i64 (getV ((agree a b).1) 10), .int .i64 (getE ((agree a b).1) 10)]), (154, .int .i64 (getV ((agree a b).1) 10)), (155, .int .i64 (getE ((agree a b).1) 10)), (26, .int .i64 (getV ((agree a b).1) 10))] ⟨rfl, rfl, rfl, rfl, rfl, rfl, rfl, rfl, rfl, rfl, rfl, rfl, rfl, rfl, rfl, rfl, rfl, rfl, rfl, rfl, rfl, rfl, rfl, rfl, rfl, trivial⟩ [fun v _ => v = .int .i64 (getV sx 10), fun v _ => v = .bool (!decide (getV sx 10 = 0)), fun v _ => v = .bool (!decide (getV sx 10 = 0)), fun v _ => v = (bif (!decide (getV sx 10 = 0)) then (.int .i64 (getV ((agree a b).1) 10)) else undef), fun v _ => v = (bif (!decide (getV sx 10 = 0)) then (.bool (decide (getV ((agree a b).1) 10 = 0))) else undef), fun v _ => v = (bif (!decide (getV sx 10 = 0)) then (.bool (decide (getV ((agree a b).1) 10 = 0))) else undef), fun v _ => v = (bif ((!decide (getV sx 10 = 0)) && (!(decide (getV ((agree a b).1) 10 = 0)))) then (.int .i64 (getV ((agree a b).1) 10)) else undef), fun v _ => v = (bif ((!decide (getV sx 10 = 0)) && (!(decide (getV ((agree a b).1) 10 = 0)))) then (.int .i64 (getV sx 10)) else undef), fun v _ => v = (bif ((!decide (getV sx 10 = 0)) && (!(decide (getV ((agree a b).1) 10 = 0)))) then (.bool (decide (getV sx 10 < getV ((agree a b).1) 10))) else undef), fun v _ => v = (bif (!decide (getV sx 10 = 0)) then (.bool ((decide (getV ((agree a b).1) 10 = 0)) || (decide (getV sx 10 < getV ((agree a b).1) 10)))) else undef), fun v _ => v = .bool ((!decide (getV sx 10 = 0)) && ((decide (getV ((agree a b).1) 10 = 0)) || (decide (getV sx 10 < getV ((agree a b).1) 10))))] [[], [0], [1], [2], [2, 3], [2, 4], [5], [5], [5, 6, 7], [2, 5, 8], [2, 9]] [0, 1, 2, 10] rfl rfl rfl ⟨fun _ _ _ _ h => h, fun _ _ _ _ h => h, fun _ _ _ _ h => h, fun _ _ _ _ h => h, fun _ _ _ _ h => h, fun _ _ _ _ h => h, fun _ _ _ _ h => h, fun _ _ _ _ h => h, fun _ _ _ _ h => h, fun _ _ _ _ h => h, fun _ _ _ _ h => h, trivial⟩ ⟨?_, ?_, ?_, ?_, ?_, ?_, ?_, ?_, ?_, ?_, ?_, trivial⟩ ?_
                  · intro W199 hW200
                    refine gather_nil ?_
                    refine opg_none rfl ?_
                    exact op_move rfl rfl ⟨told rfl rfl rfl, (Below.refl _ _)⟩
                  · intro W199 hW200
                    rintro _ rfl
                    refine gather_nil ?_
                    refine opg_none rfl ?_
                    exact op_neq rfl rfl rfl ⟨told rfl rfl rfl, (Below.refl _ _)⟩
                  · intro W199 hW200
                    rintro _ rfl
                    refine gather_nil ?_
                    refine opg_none rfl ?_
                    exact op_move rfl rfl ⟨told rfl rfl rfl, (Below.refl _ _)⟩
                  · intro W199 hW200
                    rintro _ rfl
                    refine gather_nil ?_
                    refine opg_t1 rfl rfl (fun hg201 => ?_) (fun h => by rw [h, cond_false])
                    exact op_move rfl rfl ⟨told rfl rfl (by rw [hg201, cond_true]), (Below.refl _ _)⟩
                  · intro W199 hW200
                    rintro _ rfl
                    intro v202 (hv203 : v202 = bif (!decide (getV sx 10 = 0)) then (.int .i64 (getV ((agree a b).1) 10)) else undef)
                    refine gather_nil ?_
                    refine opg_t1 rfl rfl (fun hg204 => ?_) (fun h => by rw [h, cond_false])
                    have hd205 := of_decide_eq_false (not_t hg204)
                    obtain rfl : v202 = .int .i64 (getV ((agree a b).1) 10) := by rw [hv203, hg204, cond_true]
                    exact op_eql rfl rfl rfl ⟨told rfl rfl (by rw [hg204, cond_true]), (Below.refl _ _)⟩
                  · intro W199 hW200
                    rintro _ rfl
                    intro v206 (hv207 : v206 = bif (!decide (getV sx 10 = 0)) then (.bool (decide (getV ((agree a b).1) 10 = 0))) else undef)
                    refine gather_nil ?_
                    refine opg_t1 rfl rfl (fun hg208 => ?_) (fun h => by rw [h, cond_false])
                    obtain rfl : v206 = .bool (decide (getV ((agree a b).1) 10 = 0)) := by rw [hv207, hg208, cond_true]
                    exact op_move rfl rfl ⟨told rfl rfl (by rw [hg208, cond_true]), (Below.refl _ _)⟩
                  · intro W199 hW200
                    intro v209 (hv210 : v209 = bif (!decide (getV sx 10 = 0)) then (.bool (decide (getV ((agree a b).1) 10 = 0))) else undef)
                    refine gather_nil ?_
                    refine opg_f rfl rfl hv210 (fun hg211 => ?_) (fun h => by rw [h, cond_false])
                    obtain rfl : v209 = .bool (decide (getV ((agree a b).1) 10 = 0)) := by rw [hv210, (and_l hg211), cond_true]
                    exact op_move rfl rfl ⟨told rfl rfl (by rw [hg211, cond_true]), (Below.refl _ _)⟩
                  · intro W199 hW200
                    intro v212 (hv213 : v212 = bif (!decide (getV sx 10 = 0)) then (.bool (decide (getV ((agree a b).1) 10 = 0))) else undef)
                    refine gather_nil ?_
                    refine opg_f rfl rfl hv213 (fun hg214 => ?_) (fun h => by rw [h, cond_false])
                    obtain rfl : v212 = .bool (decide (getV ((agree a b).1) 10 = 0)) := by rw [hv213, (and_l hg214), cond_true]
                    exact op_move rfl rfl ⟨told rfl rfl (by rw [hg214, cond_true]), (Below.refl _ _)⟩
                  · intro W199 hW200
                    intro v215 (hv216 : v215 = bif (!decide (getV sx 10 = 0)) then (.bool (decide (getV ((agree a b).1) 10 = 0))) else undef)
                    intro v217 (hv218 : v217 = bif ((!decide (getV sx 10 = 0)) && (!(decide (getV ((agree a b).1) 10 = 0)))) then (.int .i64 (getV ((agree a b).1) 10)) else undef)
                    intro v219 (hv220 : v219 = bif ((!decide (getV sx 10 = 0)) && (!(decide (getV ((agree a b).1) 10 = 0)))) then (.int .i64 (getV sx 10)) else undef)
                    refine gather_nil ?_
                    refine opg_f rfl rfl hv216 (fun hg221 => ?_) (fun h => by rw [h, cond_false])
                    have hd222 := of_decide_eq_false (not_t (and_l hg221))
                    have hd223 := of_decide_eq_false (not_t (and_r hg221))
                    obtain rfl : v215 = .bool (decide (getV ((agree a b).1) 10 = 0)) := by rw [hv216, (and_l hg221), cond_true]
                    obtain rfl : v217 = .int .i64 (getV ((agree a b).1) 10) := by rw [hv218, hg221, cond_true]
                    obtain rfl : v219 = .int .i64 (getV sx 10) := by rw [hv220, hg221, cond_true]
                    exact op_gtr rfl rfl rfl ⟨told rfl rfl (by rw [hg221, cond_true]), (Below.refl _ _)⟩
                  · intro W199 hW200
                    rintro _ rfl
                    intro v224 (hv225 : v224 = bif (!decide (getV sx 10 = 0)) then (.bool (decide (getV ((agree a b).1) 10 = 0))) else undef)
                    intro v226 (hv227 : v226 = bif ((!decide (getV sx 10 = 0)) && (!(decide (getV ((agree a b).1) 10 = 0)))) then (.bool (decide (getV sx 10 < getV ((agree a b).1) 10))) else undef)
                    refine gather_nil ?_
                    refine opg_t1 rfl rfl (fun hg228 => ?_) (fun h => by rw [h, cond_false])
                    obtain rfl : v224 = .bool (decide (getV ((agree a b).1) 10 = 0)) := by rw [hv225, hg228, cond_true]
                    exact op_or rfl rfl rfl (fun h => by rw [hv227, (and_i hg228 (not_i h)), cond_true]) rfl ⟨told rfl rfl (by rw [hg228, cond_true]), (Below.refl _ _)⟩
                  · intro W199 hW200
                    rintro _ rfl
                    intro v229 (hv230 : v229 = bif (!decide (getV sx 10 = 0)) then (.bool ((decide (getV ((agree a b).1) 10 = 0)) || (decide (getV sx 10 < getV ((agree a b).1) 10)))) else undef)
                    refine gather_nil ?_
                    refine opg_none rfl ?_
                    exact op_and rfl rfl rfl (fun h => by rw [hv230, h, cond_true]) rfl ⟨told rfl rfl rfl, (Below.refl _ _)⟩
                  intro W231 hW232
                  rintro _ rfl
                  rintro _ rfl
                  rintro _ rfl
                  rintro _ rfl
                  refine gather_nil ?_
                  refine (then_norm ?_)
                  refine wc_cond (b := (!decide (getV sx 10 = 0)) && ((decide (getV ((agree a b).1) 10 = 0)) || (decide (getV sx 10 < getV ((agree a b).1) 10)))) rfl (fun hc233 => ?_) (fun hc233 => ?_)
                  · exfalso
                    rw [limit_ok hc125 hsab] at hc233
                    cases hc233
                  · refine wc_skip ?_
                    refine (block_norm (then_norm ?_))
                    refine wc_region ?_
                    refine wl_op rfl (op_add (r := ((k + 1 : Nat) : Int)) rfl rfl (by omega) (by omega) rfl ?_)
                    refine wl_op rfl (op_move rfl rfl ?_)
                    refine (wl_done (then_norm ?_))
                    have hB234 : Below W150.heap.size W150 W231 := (below_step (below_step (below_step (below_step (below_new hB164 hN168) hE172) hE195) hE198) hW232)
                    refine ⟨((k + 1), W231), ⟨(by first | omega | (dsimp only; omega)), hB234⟩, ?_, ⟨rfl, rfl, rfl, rfl, rfl, trivial⟩, rfl⟩
                    · dsimp only; omega
              · have hc157r := hc157
                have hc157 := of_decide_eq_false hc157
                refine wc_exit ?_
                refine (then_exit (then_exit (block_here (then_norm ?_))))
                refine wc_seq ?_
                refine wc_region ?_
                refine wl_op rfl (op_call ent7 rfl (awake_spec) rfl ?_)
                rintro _ W235 ⟨rfl, hE236⟩
                refine wl_op rfl (op_assign rfl rfl ?_)
                refine (wl_done (then_norm ?_))
                refine WC.sub [(4, .bool true)] ⟨rfl, trivial⟩ ?_
                refine wc_ret ?_
                have hB237 : Below w.heap.size w W235 := (below_step (below_step (below_new (below_step (below_step (below_step (below_step hB89 hE95) hW123) hE135) hW148) hN152) hE156) hE236)
                refine ⟨[_], ⟨rfl, trivial⟩, ⟨?_, hB237⟩⟩
                exact rfl

end Go.Eng

set_option linter.unusedVariables false
set_option maxRecDepth 100000
namespace Go.Eng
open Go.RowKit Go.Shelf Go.Proofs Pol

theorem ent76 : Enters Try.prog 76 := enters_of Try.func76 (by kernel_rfl) rfl

def overL : List Pol → List Pol → List Pol
  | [], ys => ys
  | x :: xs, [] => x :: overL xs []
  | x :: xs, y :: ys => if x.kind < y.kind then x :: overL xs (y :: ys) else if x.kind = y.kind then y :: overL xs ys else y :: overL (x :: xs) ys
  termination_by a b => a.length + b.length
abbrev RdPc (w : World) (A : Option Addr) (n c : Nat) (xs : List Pol) : Prop := RdP w A n xs ∧ n ≤ c

theorem over_spec {w : World} {A : Option Addr} {n c : Nat} {A2 : Option Addr} {n2 c2 : Nat} : Ret Try.prog 54 #[.slice A n c, .slice A2 n2 c2] w (fun v w' => ∃ (b1 b2 : Nat), v = .func (.func 77) #[] #[.pointer (some ⟨b1, 0, none⟩), .pointer (some ⟨b2, 0, none⟩)] ∧ w'.heap[b1]? = some (.cells #[.slice A n c] 22 (0, 0)) ∧ w'.heap[b2]? = some (.cells #[.slice A2 n2 c2] 22 (0, 0)) ∧ w.heap.size ≤ b1 ∧ w.heap.size ≤ b2 ∧ b1 ≠ b2 ∧ Below w.heap.size w w') := by
  refine ret_of (args := [.slice A n c, .slice A2 n2 c2]) Try.func54 rfl Try.ntmps54 rfl (rs := [.tmp 4]) rfl ?_
  refine wc_seq ?_
  refine wc_region ?_
  refine wl_op rfl (op_box rfl rfl ?_)
  intro W1 b2 hN3
  have hb4 : W1.heap[b2]? = some (.cells #[.slice A n c] 22 (0, 0)) := hN3.blk
  refine wl_op rfl (op_box rfl rfl ?_)
  intro W5 b6 hN7
  have hb8 : W5.heap[b6]? = some (.cells #[.slice A2 n2 c2] 22 (0, 0)) := hN7.blk
  refine wl_op rfl (op_assign rfl rfl ?_)
  refine (wl_done (then_norm ?_))
  refine wc_seq ?_
  refine wc_region ?_
  refine wl_op rfl (op_makeFunc rfl rfl rfl ?_)
  refine wl_op rfl (op_assign rfl rfl ?_)
  refine (wl_done (then_norm ?_))
  refine wc_ret ?_
  have hB9 : Below w.heap.size w W5 := (below_new (below_new (Below.refl _ _) hN3) hN7)
  have hb10 : W5.heap[b2]? = some (.cells #[.slice A n c] 22 (0, 0)) := (blk_ext hb4 hN7.ext)
  have hB11 : Below w.heap.size w W1 := (below_new (Below.refl _ _) hN3)
  have hne12 : b2 ≠ b6 := ne_new hb4 hN7
  refine ⟨[_], ⟨rfl, trivial⟩, ⟨b2, b6, ?_, hb10, hb8, (Nat.le_of_eq hN3.eq.symm), (Nat.le_trans hB11.size (Nat.le_of_eq hN7.eq.symm)), hne12, hB9⟩⟩
  exact rfl

theorem AppendSeq_spec {w : World} {g : Nat} {caps : List Value} {FT : List Nat} {S : List Pol} (hent : Enters Try.prog g) (hseq : SeqC Try.prog g caps (fun p : Pol => [.agg (encP p).toArray]) FT S w.heap.size w) (hFT : ∀ k ∈ FT, k < w.heap.size) (hS : S.length ≤ 100000) : Ret Try.prog 76 #[.slice none 0 0, .func (.func g) #[] caps.toArray] w (fun v w' => ∃ (A1 : Option Addr) (n1 c1 : Nat), v = .slice A1 n1 c1 ∧ RdP w' A1 n1 S ∧ n1 ≤ c1 ∧ But FT w.heap.size w w') := by
  refine ret_ofM (args := [.slice none 0 0, .func (.func g) #[] caps.toArray]) Try.func76 rfl Try.ntmps76 rfl (rs := [.tmp 4]) rfl ?_
  refine wc_seq ?_
  refine wc_region ?_
  refine wl_op rfl (op_box rfl rfl ?_)
  intro W1 b2 hN3
  have hb4 : W1.heap[b2]? = some (.cells #[.slice none 0 0] 22 (0, 0)) := hN3.blk
  refine wl_op rfl (op_assign rfl rfl ?_)
  refine (wl_done (then_norm ?_))
  refine wc_seq ?_
  refine wc_seq ?_
  refine wc_region ?_
  refine wl_op rfl (op_move rfl rfl ?_)
  refine (wl_done (then_norm ?_))
  refine wc_block ?_
  have hB5 : Below w.heap.size w W1 := (below_new (Below.refl _ _) hN3)
  have hB6 : Below w.heap.size w W1 := (below_new (Below.refl _ _) hN3)
  refine wc_range (encs := (fun p : Pol => [.agg (encP p).toArray])) (FT := FT) (S := S) (n0 := w.heap.size) rfl rfl rfl hent (hseq.ext hB6) (fun _ => rfl) rfl hB6.size (fun k hk => Nat.lt_of_lt_of_le (hFT k hk) hB6.size)
    (fun pre W => ∃ (v : Value), (W.heap[b2]? = some (.cells #[v] 22 (0, 0))) ∧ (Own encP w.heap.size 46 2 W v pre) ∧ (some b2 ≠ v.ownBlock) ∧ But FT w.heap.size w W)
    (fun _ _ => False)
    (by rintro pre W1 W2 ⟨v, hb_b2, hown, hne, hE_r⟩ hB; exact ⟨v, (but_blk hb_b2 hB (nin_ge hFT (Nat.le_of_eq hN3.eq.symm))), (but_own hown hB hFT), hne, (hE_r.trans (hB.mono (fun _ h => h) hB5.size))⟩)
    (fun _ _ _ h _ => h)
    ⟨.slice none 0 0, hb4, (own_nil _ _ _ _ _), own_ne_nil, (But.of_below hB6)⟩ ?_ ?_ ?_
  · rintro l0 pre p rest W7 hS ⟨v, hb_b2, hown, hne, hE_r⟩ hsz
    refine WC.sub [(2, .pointer (some ⟨b2, 0, none⟩)), (4, .slice none 0 0), (7, .agg #[.int .i64 p.kind, .int .i64 p.val])] ⟨rfl, rfl, rfl, trivial⟩ ?_
    refine wc_region ?_
    refine wl_op rfl (op_alloc zero46 rfl ?_)
    intro W8 b9 hN10
    have hb11 : W8.heap[b9]? = some (.cells #[.int .i64 0, .int .i64 0] 46 (0, 0)) := hN10.blk
    refine wl_op rfl (op_storeW rfl rfl sz46 hb11 rfl rfl ?_)
    intro W12 hP13 hb14
    have hb14 : W12.heap[b9]? = some (.cells #[.int .i64 p.kind, .int .i64 p.val] 46 (0, 0)) := hb14
    refine (wl_done (then_norm ?_))
    refine ⟨(hP13.below ((Below.refl _ _).trans (hN10.ext.mono (Nat.le_trans hB6.size hsz))) (Nat.le_trans (Nat.le_trans hB6.size hsz) (Nat.le_of_eq hN10.eq.symm))), ?_⟩
    intro W15 hBut16 hSz17
    refine wc_block ?_
    refine wc_region ?_
    have hne18 : b2 ≠ b9 := ne_new hb_b2 hN10
    have hb19 : W15.heap[b2]? = some (.cells #[v] 22 (0, 0)) := (but_blk (hP13.blk (blk_ext hb_b2 hN10.ext) hne18) hBut16 nin_nil)
    refine wl_op rfl (op_load1 (v := v) rfl agg22 (cell_blk hb19 rfl) rfl ?_)
    have hb20 : W15.heap[b9]? = some (.cells #[.int .i64 p.kind, .int .i64 p.val] 46 (0, 0)) := (but_blk hb14 hBut16 nin_nil)
    refine wl_op rfl (op_loadN (vs := [.int .i64 p.kind, .int .i64 p.val]) rfl agg46 sz46 rfl (cells_blk hb20) rfl ?_)
    refine wl_op rfl (op_buildSlice (cs := #[.int .i64 p.kind, .int .i64 p.val]) (e := 46) rfl (fun w => by kernel_rfl) rfl ?_)
    intro W21 b22 hN23
    have hb24 : W21.heap[b22]? = some (.cells #[.int .i64 p.kind, .int .i64 p.val] 46 (0, 0)) := hN23.blk
    have hb25 : W21.heap[b2]? = some (.cells #[v] 22 (0, 0)) := (blk_ext (but_blk (hP13.blk (blk_ext hb_b2 hN10.ext) hne18) hBut16 nin_nil) hN23.ext)
    refine wl_op rfl (op_appendP (enc := encP) (⟨p.kind, p.val⟩ : Pol) rfl rfl app22 rfl rfl (Own.ext (but_own (own_put (Own.ext hown hN10.ext) hP13 (own_ne_new hown hN10)) hBut16 lt_nil) hN23.ext) (cells_blk hb24) rfl rfl (by (have := congrArg List.length hS; simp at this; omega)) (by (have := congrArg List.length hS; simp at this; omega)) (Nat.le_trans (Nat.le_trans (Nat.le_trans (Nat.le_trans (Nat.le_trans hB6.size hsz) hN10.ext.size) (Nat.le_of_eq hP13.size.symm)) hBut16.size) hN23.ext.size) rfl ?_)
    intro v26 W27 ho28 hg29 hob30
    obtain ⟨A31, n32, c33, hv34⟩ := own_slice ho28
    subst hv34
    have hb35 : W27.heap[b2]? = some (.cells #[v] 22 (0, 0)) := (blk_grown (blk_ext hb19 hN23.ext) hg29 hne)
    refine wl_op rfl (op_storeW rfl rfl sz22 hb35 rfl rfl ?_)
    intro W36 hP37 hb38
    have hb38 : W36.heap[b2]? = some (.cells #[(.slice A31 n32 c33)] 22 (0, 0)) := hb38
    refine (wl_done (block_norm ?_))
    exact rq_norm (hP37.below (((Below.refl _ _).trans (hN23.ext.mono (hSz17 ▸ (Nat.le_trans (Nat.le_trans hB6.size hsz) (hP13.below ((Below.refl _ _).trans (hN10.ext.mono (Nat.le_trans hB6.size hsz))) (Nat.le_trans (Nat.le_trans hB6.size hsz) (Nat.le_of_eq hN10.eq.symm))).size)))).grown hg29 (Nat.le_trans (hSz17 ▸ (Nat.le_trans (Nat.le_trans hB6.size hsz) (hP13.below ((Below.refl _ _).trans (hN10.ext.mono (Nat.le_trans hB6.size hsz))) (Nat.le_trans (Nat.le_trans hB6.size hsz) (Nat.le_of_eq hN10.eq.symm))).size)) ((Below.refl _ _).trans (hN23.ext.mono (hSz17 ▸ (Nat.le_trans (Nat.le_trans hB6.size hsz) (hP13.below ((Below.refl _ _).trans (hN10.ext.mono (Nat.le_trans hB6.size hsz))) (Nat.le_trans (Nat.le_trans hB6.size hsz) (Nat.le_of_eq hN10.eq.symm))).size)))).size) (fun k hk => Nat.le_trans (Nat.le_refl _) (World.ownsRow.lt (Own.ext (but_own (own_put (Own.ext hown hN10.ext) hP13 (own_ne_new hown hN10)) hBut16 lt_nil) hN23.ext) k hk).1)) (Nat.le_of_eq hN3.eq.symm)) ⟨(.slice A31 n32 c33), hb38, (own_put ho28 hP37 (own_ne_step hne hob30 (blk_lt hb25))), (own_ne_step hne hob30 (blk_lt hb25)), ((((((hE_r.trans (But.of_below hN10.ext)).put_ge hP13 (Nat.le_trans (Nat.le_trans hB6.size hsz) (Nat.le_of_eq hN10.eq.symm))).trans (hBut16.mono (fun k hk => by cases hk) hB6.size)).trans (But.of_below hN23.ext)).grow_ge hg29 (fun k hk => Nat.le_trans (Nat.le_refl _) (World.ownsRow.lt (Own.ext (but_own (own_put (Own.ext hown hN10.ext) hP13 (own_ne_new hown hN10)) hBut16 lt_nil) hN23.ext) k hk).1)).put_ge hP37 (Nat.le_of_eq hN3.eq.symm))⟩
  · rintro W39 ⟨v, hb_b2, hown, hne, hE_r⟩ hsz
    refine (block_norm (then_norm ?_))
    refine wc_seq ?_
    refine wc_region ?_
    refine wl_op rfl (op_load1 (v := v) rfl agg22 (cell_blk hb_b2 rfl) rfl ?_)
    refine wl_op rfl (op_assign rfl rfl ?_)
    refine (wl_done (then_norm ?_))
    refine wc_ret ?_
    intro W40 hBut41 hSz42
    obtain ⟨A43, n44, c45, hv46, hr47, hn48, hnc49⟩ := rd_of_OwnC (but_own hown hBut41 lt_nil) (fun _ => rfl) (by omega)
    subst hv46
    refine ⟨[_], ⟨rfl, trivial⟩, ⟨A43, n44, c45, ?_, hr47, (by omega), (hE_r.trans (hBut41.mono (fun k hk => by cases hk) (Nat.le_refl _)))⟩⟩
    exact rfl
  · intro e W h; exact h.elim

theorem Collect_spec {w : World} {g : Nat} {caps : List Value} {FT : List Nat} {S : List Pol} (hent : Enters Try.prog g) (hseq : SeqC Try.prog g caps (fun p : Pol => [.agg (encP p).toArray]) FT S w.heap.size w) (hFT : ∀ k ∈ FT, k < w.heap.size) (hS : S.length ≤ 100000) : Ret Try.prog 53 #[.func (.func g) #[] caps.toArray] w (fun v w' => ∃ (A1 : Option Addr) (n1 c1 : Nat), v = .slice A1 n1 c1 ∧ RdP w' A1 n1 S ∧ n1 ≤ c1 ∧ But FT w.heap.size w w') := by
  refine ret_of (args := [.func (.func g) #[] caps.toArray]) Try.func53 rfl Try.ntmps53 rfl (rs := [.tmp 2]) rfl ?_
  refine wc_seq ?_
  refine wc_region ?_
  refine wl_op rfl (op_assign rfl rfl ?_)
  refine (wl_done (then_norm ?_))
  refine wc_seq ?_
  refine wc_region ?_
  refine wl_op rfl (op_move rfl rfl ?_)
  refine wl_op rfl (op_call ent76 rfl (AppendSeq_spec hent hseq hFT hS (FT := FT) (S := S)) rfl ?_)
  rintro _ W7 ⟨A11, n12, c13, rfl, hp4, hp5, hp6⟩
  refine wl_op rfl (op_assign rfl rfl ?_)
  refine (wl_done (then_norm ?_))
  refine wc_ret ?_
  refine ⟨[_], ⟨rfl, trivial⟩, ⟨A11, n12, c13, ?_, hp4, hp5, hp6⟩⟩
  exact rfl

theorem overL_nil (ys : List Pol) : overL [] ys = ys := by unfold overL; rfl
theorem overL_l {xs ys : List Pol} {n n2 : Nat} {x y : Pol} (hn : xs.length = n) (hn2 : ys.length = n2) (hx : 0 < xs.length → xs[0]? = some x) (hy : 0 < ys.length → ys[0]? = some y) (h0 : 0 < ((n + n2 : Nat) : Int))
    (h : ((decide (((n2 : Nat) : Int) = 0)) || ((decide (0 < ((n : Nat) : Int))) && (decide (x.kind < y.kind)))) = true) : 0 < n ∧ overL xs ys = x :: overL (xs.drop 1) ys := by
  cases xs with
  | nil => simp at hn h; omega
  | cons a xs =>
    have e := hx (by simp)
    simp at e; subst e
    refine ⟨by simp at hn; omega, ?_⟩
    cases ys with
    | nil => rw [overL]; rfl
    | cons b ys =>
      have e := hy (by simp)
      simp at e; subst e
      have hlt : a.kind < b.kind := by simp at hn hn2 h; omega
      rw [overL, if_pos hlt]; rfl
theorem overL_r {xs ys : List Pol} {n n2 : Nat} {x y : Pol} (hn : xs.length = n) (hn2 : ys.length = n2) (hx : 0 < xs.length → xs[0]? = some x) (hy : 0 < ys.length → ys[0]? = some y)
    (h : ((decide (((n2 : Nat) : Int) = 0)) || ((decide (0 < ((n : Nat) : Int))) && (decide (x.kind < y.kind)))) = false) : 0 < n2 := by
  simp at h; omega
theorem overL_eq {xs ys : List Pol} {n n2 : Nat} {x y : Pol} (hn : xs.length = n) (hn2 : ys.length = n2) (hx : 0 < xs.length → xs[0]? = some x) (hy : 0 < ys.length → ys[0]? = some y) (h2 : 0 < n2)
    (h : ((decide (0 < ((n : Nat) : Int))) && (decide (x.kind = y.kind))) = true) : 0 < n ∧ overL xs ys = y :: overL (xs.drop 1) (ys.drop 1) := by
  cases xs with
  | nil => simp at hn h; omega
  | cons a xs =>
    have e := hx (by simp)
    simp at e; subst e
    refine ⟨by simp at hn; omega, ?_⟩
    cases ys with
    | nil => simp at hn2; omega
    | cons b ys =>
      have e := hy (by simp)
      simp at e; subst e
      have he : a.kind = b.kind := by simp at h; exact h.2
      rw [overL, if_neg (by omega), if_pos he]; rfl
theorem overL_gt {xs ys : List Pol} {n n2 : Nat} {x y : Pol} (hn : xs.length = n) (hn2 : ys.length = n2) (hx : 0 < xs.length → xs[0]? = some x) (hy : 0 < ys.length → ys[0]? = some y) (h2 : 0 < n2)
    (h : ((decide (((n2 : Nat) : Int) = 0)) || ((decide (0 < ((n : Nat) : Int))) && (decide (x.kind < y.kind)))) = false)
    (h' : ((decide (0 < ((n : Nat) : Int))) && (decide (x.kind = y.kind))) = false) : overL xs ys = y :: overL xs (ys.drop 1) := by
  cases ys with
  | nil => simp at hn2; omega
  | cons b ys =>
    have e := hy (by simp)
    simp at e; subst e
    cases xs with
    | nil => rw [overL_nil, overL_nil]; rfl
    | cons a xs =>
      have e := hx (by simp)
      simp at e; subst e
      have h3 : ¬ a.kind = b.kind := by simp at hn h'; exact h' (by omega)
      have h4 : ¬ a.kind < b.kind := by simp at hn h; omega
      rw [overL, if_neg h4, if_neg h3]; rfl
theorem over_end {xs ys : List Pol} {n n2 : Nat} (hn : xs.length = n) (hn2 : ys.length = n2) (h : ¬ 0 < ((n + n2 : Nat) : Int)) : overL xs ys = [] := by
  have e1 : xs = [] := List.eq_nil_of_length_eq_zero (by omega)
  have e2 : ys = [] := List.eq_nil_of_length_eq_zero (by omega)
  subst e1; subst e2; rw [overL_nil]

end Go.Eng

set_option linter.unusedVariables false
set_option maxRecDepth 100000
namespace Go.Eng
open Go.RowKit Go.Shelf Go.Proofs Pol



theorem over1_seq {w0 w : World} {A : Option Addr} {n c : Nat} {a : List Pol} {A3 : Option Addr} {n3 c3 : Nat} {b : List Pol} {b1 b2 : Nat} (hE0 : Below w0.heap.size w0 w) (hs : RdP w0 A n a) (hc : n ≤ c) (hs2 : RdP w0 A3 n3 b) (hc2 : n3 ≤ c3) (hb1w : w.heap[b1]? = some (.cells #[.slice A n c] 22 (0, 0))) (hb2w : w.heap[b2]? = some (.cells #[.slice A3 n3 c3] 22 (0, 0))) (h1 : w0.heap.size ≤ b1) (h2 : w0.heap.size ≤ b2) (hne : b1 ≠ b2) : SeqC Try.prog 77 [.pointer (some ⟨b1, 0, none⟩), .pointer (some ⟨b2, 0, none⟩)] (fun p : Pol => [.agg (encP p).toArray]) [b1, b2] (overL a b) w.heap.size w := by
  refine seq_of Try.func77 rfl Try.ntmps77 rfl rfl ?_
  intro L J Jx W hW hJs hJxs hY hJ0
  refine wc_block ?_
  have hB2 : Below w0.heap.size w0 W := (below_step (below_step (Below.refl _ _) hE0) hW)
  refine wc_loop (σ := (Option Addr) × Nat × Nat × (List Pol) × (Option Addr) × Nat × Nat × (List Pol) × (List Pol) × World) (fun st_ => [(0, .func (.yield L) #[] #[]), (1, .pointer (some ⟨b1, 0, none⟩)), (2, .pointer (some ⟨b2, 0, none⟩))]) (fun st_ => st_.2.2.2.2.2.2.2.2.2) (fun st_ => (RdP w0 st_.1 st_.2.1 st_.2.2.2.1) ∧ (st_.2.1 ≤ st_.2.2.1) ∧ (RdP w0 st_.2.2.2.2.1 st_.2.2.2.2.2.1 st_.2.2.2.2.2.2.2.1) ∧ (st_.2.2.2.2.2.1 ≤ st_.2.2.2.2.2.2.1) ∧ (overL a b = st_.2.2.2.2.2.2.2.2.1 ++ overL st_.2.2.2.1 st_.2.2.2.2.2.2.2.1) ∧ (st_.2.2.2.2.2.2.2.2.2.heap[b1]? = some (.cells #[.slice st_.1 st_.2.1 st_.2.2.1] 22 (0, 0))) ∧ (st_.2.2.2.2.2.2.2.2.2.heap[b2]? = some (.cells #[.slice st_.2.2.2.2.1 st_.2.2.2.2.2.1 st_.2.2.2.2.2.2.1] 22 (0, 0))) ∧ (J st_.2.2.2.2.2.2.2.2.1 st_.2.2.2.2.2.2.2.2.2) ∧ (Below w0.heap.size w0 st_.2.2.2.2.2.2.2.2.2)) (fun st_ => st_.2.1 + st_.2.2.2.2.2.1) (A, n, c, a, A3, n3, c3, b, [], W) ⟨hs, hc, hs2, hc2, (List.nil_append _).symm, (blk_ext hb1w hW), (blk_ext hb2w hW), hJ0, hB2⟩ ⟨rfl, rfl, rfl, trivial⟩ rfl ?_
  rintro ⟨A1, n1, c1, xs, A2, n2, c2, ys, pre, W1⟩ ⟨hx, hcx, hy, hcy, hS, hb1, hb2, hJ, hE3⟩
  dsimp only at hx hcx hy hcy hS hb1 hb2 hJ hE3
  refine wc_at [(0, .func (.yield L) #[] #[]), (1, .pointer (some ⟨b1, 0, none⟩)), (2, .pointer (some ⟨b2, 0, none⟩))] W1 ⟨rfl, rfl, rfl, trivial⟩ rfl ?_
  have hl1 := hx.len
  have hl2 := hy.len
  have hbd1 := hx.bd
  have hbd2 := hy.bd
  refine wc_seq ?_
  refine wc_seq ?_
  refine wc_region ?_
  refine wl_op rfl (op_load1 (v := .slice A1 n1 c1) rfl agg22 (cell_blk hb1 rfl) rfl ?_)
  refine wl_op rfl (op_len_slice rfl rfl und22 rfl rfl ?_)
  refine wl_op rfl (op_load1 (v := .slice A2 n2 c2) rfl agg22 (cell_blk hb2 rfl) rfl ?_)
  refine wl_op rfl (op_len_slice rfl rfl und22 rfl rfl ?_)
  refine wl_op rfl (op_add (r := ((n1 + n2 : Nat) : Int)) rfl rfl (by omega) (by omega) rfl ?_)
  refine wl_op rfl (op_gtr rfl rfl rfl ?_)
  refine (wl_done (then_norm ?_))
  refine wc_cond (b := decide (0 < ((n1 + n2 : Nat) : Int))) rfl (fun hc4 => ?_) (fun hc4 => ?_)
  · have hc4r := hc4
    have hc4 := of_decide_eq_true hc4
    have HC0 := hc4
    refine wc_skip ?_
    refine (then_norm ?_)
    refine wc_block ?_
    refine wc_seq ?_
    refine wc_region ?_
    refine wl_op rfl (op_alloc zero46 rfl ?_)
    intro W5 b6 hN7
    have hb8 : W5.heap[b6]? = some (.cells #[.int .i64 0, .int .i64 0] 46 (0, 0)) := hN7.blk
    refine (wl_done (then_norm ?_))
    refine wc_seq ?_
    refine wc_block ?_
    refine wc_seq ?_
    obtain ⟨bs14, os15, hA16, hc17⟩ := hx.flat
    have hln18 := hx.len
    have hbd19 := hx.bd
    obtain ⟨x_xs_0, hx_xs_0⟩ : ∃ x, (0 < xs.length → xs[0]? = some x) := by
      by_cases h : 0 < xs.length
      · exact ⟨_, fun _ => List.getElem?_eq_getElem h⟩
      · exact ⟨(⟨0, 0⟩ : Pol), fun h1 => absurd h1 h⟩
    obtain ⟨bs22, os23, hA24, hc25⟩ := hy.flat
    have hln26 := hy.len
    have hbd27 := hy.bd
    obtain ⟨x_ys_0, hx_ys_0⟩ : ∃ x, (0 < ys.length → ys[0]? = some x) := by
      by_cases h : 0 < ys.length
      · exact ⟨_, fun _ => List.getElem?_eq_getElem h⟩
      · exact ⟨(⟨0, 0⟩ : Pol), fun h1 => absurd h1 h⟩
    refine wc_draw mixed [(0, .func (.yield L) #[] #[]), (1, .pointer (some ⟨b1, 0, none⟩)), (2, .pointer (some ⟨b2, 0, none⟩)), (5, .slice A1 n1 c1), (6, .int .i64 ((n1 : Nat) : Int)), (7, .slice A2 n2 c2), (8, .int .i64 ((n2 : Nat) : Int)), (9, .int .i64 ((n1 + n2 : Nat) : Int)), (10, .bool (decide (0 < ((n1 + n2 : Nat) : Int)))), (4, .pointer (some ⟨b6, 0, none⟩))] ⟨rfl, rfl, rfl, rfl, rfl, rfl, rfl, rfl, rfl, rfl, trivial⟩ [fun v _ => v = .slice A2 n2 c2, fun v _ => v = .int .i64 ((n2 : Nat) : Int), fun v _ => v = .bool (decide (((n2 : Nat) : Int) = 0)), fun v _ => v = .bool (decide (((n2 : Nat) : Int) = 0)), fun v _ => v = (bif (!(decide (((n2 : Nat) : Int) = 0))) then (.slice A1 n1 c1) else undef), fun v _ => v = (bif (!(decide (((n2 : Nat) : Int) = 0))) then (.int .i64 ((n1 : Nat) : Int)) else undef), fun v _ => v = (bif (!(decide (((n2 : Nat) : Int) = 0))) then (.bool (decide (0 < ((n1 : Nat) : Int)))) else undef), fun v _ => v = (bif (!(decide (((n2 : Nat) : Int) = 0))) then (.bool (decide (0 < ((n1 : Nat) : Int)))) else undef), fun v _ => v = (bif ((!(decide (((n2 : Nat) : Int) = 0))) && (decide (0 < ((n1 : Nat) : Int)))) then (.slice A1 n1 c1) else undef), fun v _ => v = (bif ((!(decide (((n2 : Nat) : Int) = 0))) && (decide (0 < ((n1 : Nat) : Int)))) then (.pointer (some ⟨bs14, os15 + 0 * 2, none⟩)) else undef), fun v _ => v = (bif ((!(decide (((n2 : Nat) : Int) = 0))) && (decide (0 < ((n1 : Nat) : Int)))) then (.pointer (some ⟨bs14, os15 + 0 * 2 + 0, none⟩)) else undef), fun v _ => v = (bif ((!(decide (((n2 : Nat) : Int) = 0))) && (decide (0 < ((n1 : Nat) : Int)))) then (.int .i64 x_xs_0.kind) else undef), fun v _ => v = (bif ((!(decide (((n2 : Nat) : Int) = 0))) && (decide (0 < ((n1 : Nat) : Int)))) then (.slice A2 n2 c2) else undef), fun v _ => v = (bif ((!(decide (((n2 : Nat) : Int) = 0))) && (decide (0 < ((n1 : Nat) : Int)))) then (.pointer (some ⟨bs22, os23 + 0 * 2, none⟩)) else undef), fun v _ => v = (bif ((!(decide (((n2 : Nat) : Int) = 0))) && (decide (0 < ((n1 : Nat) : Int)))) then (.pointer (some ⟨bs22, os23 + 0 * 2 + 0, none⟩)) else undef), fun v _ => v = (bif ((!(decide (((n2 : Nat) : Int) = 0))) && (decide (0 < ((n1 : Nat) : Int)))) then (.int .i64 x_ys_0.kind) else undef), fun v _ => v = (bif ((!(decide (((n2 : Nat) : Int) = 0))) && (decide (0 < ((n1 : Nat) : Int)))) then (.bool (decide (x_xs_0.kind < x_ys_0.kind))) else undef), fun v _ => v = (bif (!(decide (((n2 : Nat) : Int) = 0))) then (.bool ((decide (0 < ((n1 : Nat) : Int))) && (decide (x_xs_0.kind < x_ys_0.kind)))) else undef), fun v _ => v = .bool ((decide (((n2 : Nat) : Int) = 0)) || ((decide (0 < ((n1 : Nat) : Int))) && (decide (x_xs_0.kind < x_ys_0.kind)))), fun v _ => v = .bool ((decide (((n2 : Nat) : Int) = 0)) || ((decide (0 < ((n1 : Nat) : Int))) && (decide (x_xs_0.kind < x_ys_0.kind))))] [[], [0], [1], [2], [3], [3, 4], [3, 5], [3, 6], [7], [7, 8], [7, 9], [7, 10], [7], [7, 12], [7, 13], [7, 14], [7, 11, 15], [3, 7, 16], [3, 17], [18]] [0, 1, 2, 3, 18, 19] rfl rfl rfl ⟨fun _ _ _ _ h => h, fun _ _ _ _ h => h, fun _ _ _ _ h => h, fun _ _ _ _ h => h, fun _ _ _ _ h => h, fun _ _ _ _ h => h, fun _ _ _ _ h => h, fun _ _ _ _ h => h, fun _ _ _ _ h => h, fun _ _ _ _ h => h, fun _ _ _ _ h => h, fun _ _ _ _ h => h, fun _ _ _ _ h => h, fun _ _ _ _ h => h, fun _ _ _ _ h => h, fun _ _ _ _ h => h, fun _ _ _ _ h => h, fun _ _ _ _ h => h, fun _ _ _ _ h => h, fun _ _ _ _ h => h, trivial⟩ ⟨?_, ?_, ?_, ?_, ?_, ?_, ?_, ?_, ?_, ?_, ?_, ?_, ?_, ?_, ?_, ?_, ?_, ?_, ?_, ?_, trivial⟩ ?_
    · intro W9 hW10
      refine gather_nil ?_
      refine opg_none rfl ?_
      have hb29 : W9.heap[b2]? = some (.cells #[.slice A2 n2 c2] 22 (0, 0)) := (blk_ext (blk_ext hb2 hN7.ext) hW10)
      exact op_load1 (v := .slice A2 n2 c2) rfl agg22 (cell_blk hb29 rfl) rfl ⟨told rfl rfl rfl, (Below.refl _ _)⟩
    · intro W9 hW10
      rintro _ rfl
      refine gather_nil ?_
      refine opg_none rfl ?_
      exact op_len_slice rfl rfl und22 rfl rfl ⟨told rfl rfl rfl, (Below.refl _ _)⟩
    · intro W9 hW10
      rintro _ rfl
      refine gather_nil ?_
      refine opg_none rfl ?_
      exact op_eql rfl rfl rfl ⟨told rfl rfl rfl, (Below.refl _ _)⟩
    · intro W9 hW10
      rintro _ rfl
      refine gather_nil ?_
      refine opg_none rfl ?_
      exact op_move rfl rfl ⟨told rfl rfl rfl, (Below.refl _ _)⟩
    · intro W9 hW10
      rintro _ rfl
      refine gather_nil ?_
      refine opg_f1 rfl rfl (fun hg30 => ?_) (fun h => by rw [h, cond_false])
      have hd31 := of_decide_eq_false (not_t hg30)
      have hb32 : W9.heap[b1]? = some (.cells #[.slice A1 n1 c1] 22 (0, 0)) := (blk_ext (blk_ext hb1 hN7.ext) hW10)
      exact op_load1 (v := .slice A1 n1 c1) rfl agg22 (cell_blk hb32 rfl) rfl ⟨told rfl rfl (by rw [hg30, cond_true]), (Below.refl _ _)⟩
    · intro W9 hW10
      rintro _ rfl
      intro v33 (hv34 : v33 = bif (!(decide (((n2 : Nat) : Int) = 0))) then (.slice A1 n1 c1) else undef)
      refine gather_nil ?_
      refine opg_f1 rfl rfl (fun hg35 => ?_) (fun h => by rw [h, cond_false])
      have hd36 := of_decide_eq_false (not_t hg35)
      obtain rfl : v33 = .slice A1 n1 c1 := by rw [hv34, hg35, cond_true]
      exact op_len_slice rfl rfl und22 rfl rfl ⟨told rfl rfl (by rw [hg35, cond_true]), (Below.refl _ _)⟩
    · intro W9 hW10
      rintro _ rfl
      intro v37 (hv38 : v37 = bif (!(decide (((n2 : Nat) : Int) = 0))) then (.int .i64 ((n1 : Nat) : Int)) else undef)
      refine gather_nil ?_
      refine opg_f1 rfl rfl (fun hg39 => ?_) (fun h => by rw [h, cond_false])
      have hd40 := of_decide_eq_false (not_t hg39)
      obtain rfl : v37 = .int .i64 ((n1 : Nat) : Int) := by rw [hv38, hg39, cond_true]
      exact op_gtr rfl rfl rfl ⟨told rfl rfl (by rw [hg39, cond_true]), (Below.refl _ _)⟩
    · intro W9 hW10
      rintro _ rfl
      intro v41 (hv42 : v41 = bif (!(decide (((n2 : Nat) : Int) = 0))) then (.bool (decide (0 < ((n1 : Nat) : Int)))) else undef)
      refine gather_nil ?_
      refine opg_f1 rfl rfl (fun hg43 => ?_) (fun h => by rw [h, cond_false])
      obtain rfl : v41 = .bool (decide (0 < ((n1 : Nat) : Int))) := by rw [hv42, hg43, cond_true]
      exact op_move rfl rfl ⟨told rfl rfl (by rw [hg43, cond_true]), (Below.refl _ _)⟩
    · intro W9 hW10
      intro v44 (hv45 : v44 = bif (!(decide (((n2 : Nat) : Int) = 0))) then (.bool (decide (0 < ((n1 : Nat) : Int)))) else undef)
      refine gather_nil ?_
      refine opg_t rfl rfl hv45 (fun hg46 => ?_) (fun h => by rw [h, cond_false])
      have hd47 := of_decide_eq_false (not_t (and_l hg46))
      have hd48 := of_decide_eq_true (and_r hg46)
      obtain rfl : v44 = .bool (decide (0 < ((n1 : Nat) : Int))) := by rw [hv45, (and_l hg46), cond_true]
      have hb49 : W9.heap[b1]? = some (.cells #[.slice A1 n1 c1] 22 (0, 0)) := (blk_ext (blk_ext hb1 hN7.ext) hW10)
      exact op_load1 (v := .slice A1 n1 c1) rfl agg22 (cell_blk hb49 rfl) rfl ⟨told rfl rfl (by rw [hg46, cond_true]), (Below.refl _ _)⟩
    · intro W9 hW10
      intro v50 (hv51 : v50 = bif (!(decide (((n2 : Nat) : Int) = 0))) then (.bool (decide (0 < ((n1 : Nat) : Int)))) else undef)
      intro v52 (hv53 : v52 = bif ((!(decide (((n2 : Nat) : Int) = 0))) && (decide (0 < ((n1 : Nat) : Int)))) then (.slice A1 n1 c1) else undef)
      refine gather_nil ?_
      refine opg_t rfl rfl hv51 (fun hg54 => ?_) (fun h => by rw [h, cond_false])
      have hd55 := of_decide_eq_false (not_t (and_l hg54))
      have hd56 := of_decide_eq_true (and_r hg54)
      obtain rfl : v50 = .bool (decide (0 < ((n1 : Nat) : Int))) := by rw [hv51, (and_l hg54), cond_true]
      obtain rfl : v52 = .slice A1 n1 c1 := by rw [hv53, hg54, cond_true]
      exact op_indexAddr (j := 0) rfl rfl und22 sz46 (hA16 (by omega)) rfl (by omega) rfl ⟨told rfl rfl (by rw [hg54, cond_true]), (Below.refl _ _)⟩
    · intro W9 hW10
      intro v57 (hv58 : v57 = bif (!(decide (((n2 : Nat) : Int) = 0))) then (.bool (decide (0 < ((n1 : Nat) : Int)))) else undef)
      intro v59 (hv60 : v59 = bif ((!(decide (((n2 : Nat) : Int) = 0))) && (decide (0 < ((n1 : Nat) : Int)))) then (.pointer (some ⟨bs14, os15 + 0 * 2, none⟩)) else undef)
      refine gather_nil ?_
      refine opg_t rfl rfl hv58 (fun hg61 => ?_) (fun h => by rw [h, cond_false])
      obtain rfl : v57 = .bool (decide (0 < ((n1 : Nat) : Int))) := by rw [hv58, (and_l hg61), cond_true]
      obtain rfl : v59 = .pointer (some ⟨bs14, os15 + 0 * 2, none⟩) := by rw [hv60, hg61, cond_true]
      exact op_fieldAddr rfl fa46_0 rfl ⟨told rfl rfl (by rw [hg61, cond_true]), (Below.refl _ _)⟩
    · intro W9 hW10
      intro v62 (hv63 : v62 = bif (!(decide (((n2 : Nat) : Int) = 0))) then (.bool (decide (0 < ((n1 : Nat) : Int)))) else undef)
      intro v64 (hv65 : v64 = bif ((!(decide (((n2 : Nat) : Int) = 0))) && (decide (0 < ((n1 : Nat) : Int)))) then (.pointer (some ⟨bs14, os15 + 0 * 2 + 0, none⟩)) else undef)
      refine gather_nil ?_
      refine opg_t rfl rfl hv63 (fun hg66 => ?_) (fun h => by rw [h, cond_false])
      have hd67 := of_decide_eq_false (not_t (and_l hg66))
      have hd68 := of_decide_eq_true (and_r hg66)
      obtain rfl : v62 = .bool (decide (0 < ((n1 : Nat) : Int))) := by rw [hv63, (and_l hg66), cond_true]
      obtain rfl : v64 = .pointer (some ⟨bs14, os15 + 0 * 2 + 0, none⟩) := by rw [hv65, hg66, cond_true]
      have hB69 : Below w0.heap.size w0 W9 := (below_step (below_new (below_step (Below.refl _ _) hE3) hN7) hW10)
      exact op_load1 (v := .int .i64 x_xs_0.kind) rfl agg3 (((hc17 0 x_xs_0 (hx_xs_0 (by have := hx.len; omega))).ext hB69).at (i := 0) rfl) rfl ⟨told rfl rfl (by rw [hg66, cond_true]), (Below.refl _ _)⟩
    · intro W9 hW10
      intro v70 (hv71 : v70 = bif (!(decide (((n2 : Nat) : Int) = 0))) then (.bool (decide (0 < ((n1 : Nat) : Int)))) else undef)
      refine gather_nil ?_
      refine opg_t rfl rfl hv71 (fun hg72 => ?_) (fun h => by rw [h, cond_false])
      have hd73 := of_decide_eq_false (not_t (and_l hg72))
      have hd74 := of_decide_eq_true (and_r hg72)
      obtain rfl : v70 = .bool (decide (0 < ((n1 : Nat) : Int))) := by rw [hv71, (and_l hg72), cond_true]
      have hb75 : W9.heap[b2]? = some (.cells #[.slice A2 n2 c2] 22 (0, 0)) := (blk_ext (blk_ext hb2 hN7.ext) hW10)
      exact op_load1 (v := .slice A2 n2 c2) rfl agg22 (cell_blk hb75 rfl) rfl ⟨told rfl rfl (by rw [hg72, cond_true]), (Below.refl _ _)⟩
    · intro W9 hW10
      intro v76 (hv77 : v76 = bif (!(decide (((n2 : Nat) : Int) = 0))) then (.bool (decide (0 < ((n1 : Nat) : Int)))) else undef)
      intro v78 (hv79 : v78 = bif ((!(decide (((n2 : Nat) : Int) = 0))) && (decide (0 < ((n1 : Nat) : Int)))) then (.slice A2 n2 c2) else undef)
      refine gather_nil ?_
      refine opg_t rfl rfl hv77 (fun hg80 => ?_) (fun h => by rw [h, cond_false])
      have hd81 := of_decide_eq_false (not_t (and_l hg80))
      have hd82 := of_decide_eq_true (and_r hg80)
      obtain rfl : v76 = .bool (decide (0 < ((n1 : Nat) : Int))) := by rw [hv77, (and_l hg80), cond_true]
      obtain rfl : v78 = .slice A2 n2 c2 := by rw [hv79, hg80, cond_true]
      exact op_indexAddr (j := 0) rfl rfl und22 sz46 (hA24 (by omega)) rfl (by omega) rfl ⟨told rfl rfl (by rw [hg80, cond_true]), (Below.refl _ _)⟩
    · intro W9 hW10
      intro v83 (hv84 : v83 = bif (!(decide (((n2 : Nat) : Int) = 0))) then (.bool (decide (0 < ((n1 : Nat) : Int)))) else undef)
      intro v85 (hv86 : v85 = bif ((!(decide (((n2 : Nat) : Int) = 0))) && (decide (0 < ((n1 : Nat) : Int)))) then (.pointer (some ⟨bs22, os23 + 0 * 2, none⟩)) else undef)
      refine gather_nil ?_
      refine opg_t rfl rfl hv84 (fun hg87 => ?_) (fun h => by rw [h, cond_false])
      obtain rfl : v83 = .bool (decide (0 < ((n1 : Nat) : Int))) := by rw [hv84, (and_l hg87), cond_true]
      obtain rfl : v85 = .pointer (some ⟨bs22, os23 + 0 * 2, none⟩) := by rw [hv86, hg87, cond_true]
      exact op_fieldAddr rfl fa46_0 rfl ⟨told rfl rfl (by rw [hg87, cond_true]), (Below.refl _ _)⟩
    · intro W9 hW10
      intro v88 (hv89 : v88 = bif (!(decide (((n2 : Nat) : Int) = 0))) then (.bool (decide (0 < ((n1 : Nat) : Int)))) else undef)
      intro v90 (hv91 : v90 = bif ((!(decide (((n2 : Nat) : Int) = 0))) && (decide (0 < ((n1 : Nat) : Int)))) then (.pointer (some ⟨bs22, os23 + 0 * 2 + 0, none⟩)) else undef)
      refine gather_nil ?_
      refine opg_t rfl rfl hv89 (fun hg92 => ?_) (fun h => by rw [h, cond_false])
      have hd93 := of_decide_eq_false (not_t (and_l hg92))
      have hd94 := of_decide_eq_true (and_r hg92)
      obtain rfl : v88 = .bool (decide (0 < ((n1 : Nat) : Int))) := by rw [hv89, (and_l hg92), cond_true]
      obtain rfl : v90 = .pointer (some ⟨bs22, os23 + 0 * 2 + 0, none⟩) := by rw [hv91, hg92, cond_true]
      have hB95 : Below w0.heap.size w0 W9 := (below_step (below_new (below_step (Below.refl _ _) hE3) hN7) hW10)
      exact op_load1 (v := .int .i64 x_ys_0.kind) rfl agg3 (((hc25 0 x_ys_0 (hx_ys_0 (by have := hy.len; omega))).ext hB95).at (i := 0) rfl) rfl ⟨told rfl rfl (by rw [hg92, cond_true]), (Below.refl _ _)⟩
    · intro W9 hW10
      intro v96 (hv97 : v96 = bif (!(decide (((n2 : Nat) : Int) = 0))) then (.bool (decide (0 < ((n1 : Nat) : Int)))) else undef)
      intro v98 (hv99 : v98 = bif ((!(decide (((n2 : Nat) : Int) = 0))) && (decide (0 < ((n1 : Nat) : Int)))) then (.int .i64 x_xs_0.kind) else undef)
      intro v100 (hv101 : v100 = bif ((!(decide (((n2 : Nat) : Int) = 0))) && (decide (0 < ((n1 : Nat) : Int)))) then (.int .i64 x_ys_0.kind) else undef)
      refine gather_nil ?_
      refine opg_t rfl rfl hv97 (fun hg102 => ?_) (fun h => by rw [h, cond_false])
      have hd103 := of_decide_eq_false (not_t (and_l hg102))
      have hd104 := of_decide_eq_true (and_r hg102)
      obtain rfl : v96 = .bool (decide (0 < ((n1 : Nat) : Int))) := by rw [hv97, (and_l hg102), cond_true]
      obtain rfl : v98 = .int .i64 x_xs_0.kind := by rw [hv99, hg102, cond_true]
      obtain rfl : v100 = .int .i64 x_ys_0.kind := by rw [hv101, hg102, cond_true]
      exact op_lss rfl rfl rfl ⟨told rfl rfl (by rw [hg102, cond_true]), (Below.refl _ _)⟩
    · intro W9 hW10
      rintro _ rfl
      intro v105 (hv106 : v105 = bif (!(decide (((n2 : Nat) : Int) = 0))) then (.bool (decide (0 < ((n1 : Nat) : Int)))) else undef)
      intro v107 (hv108 : v107 = bif ((!(decide (((n2 : Nat) : Int) = 0))) && (decide (0 < ((n1 : Nat) : Int)))) then (.bool (decide (x_xs_0.kind < x_ys_0.kind))) else undef)
      refine gather_nil ?_
      refine opg_f1 rfl rfl (fun hg109 => ?_) (fun h => by rw [h, cond_false])
      obtain rfl : v105 = .bool (decide (0 < ((n1 : Nat) : Int))) := by rw [hv106, hg109, cond_true]
      exact op_and rfl rfl rfl (fun h => by rw [hv108, (and_i hg109 h), cond_true]) rfl ⟨told rfl rfl (by rw [hg109, cond_true]), (Below.refl _ _)⟩
    · intro W9 hW10
      rintro _ rfl
      intro v110 (hv111 : v110 = bif (!(decide (((n2 : Nat) : Int) = 0))) then (.bool ((decide (0 < ((n1 : Nat) : Int))) && (decide (x_xs_0.kind < x_ys_0.kind)))) else undef)
      refine gather_nil ?_
      refine opg_none rfl ?_
      exact op_or rfl rfl rfl (fun h => by rw [hv111, (not_i h), cond_true]) rfl ⟨told rfl rfl rfl, (Below.refl _ _)⟩
    · intro W9 hW10
      rintro _ rfl
      refine gather_nil ?_
      refine opg_none rfl ?_
      exact op_assign rfl rfl ⟨told rfl rfl rfl, (Below.refl _ _)⟩
    intro W112 hW113
    rintro _ rfl
    rintro _ rfl
    rintro _ rfl
    rintro _ rfl
    rintro _ rfl
    rintro _ rfl
    refine gather_nil ?_
    refine (then_norm ?_)
    refine wc_cond (b := (decide (((n2 : Nat) : Int) = 0)) || ((decide (0 < ((n1 : Nat) : Int))) && (decide (x_xs_0.kind < x_ys_0.kind)))) rfl (fun hc114 => ?_) (fun hc114 => ?_)
    · obtain ⟨h0n, hov⟩ := overL_l hl1 hl2 hx_xs_0 hx_ys_0 HC0 hc114
      have hb115 : W112.heap[b6]? = some (.cells #[.int .i64 0, .int .i64 0] 46 (0, 0)) := (blk_ext hb8 hW113)
      refine wc_draw_tailS (sr_sb b6 (.cells #[.int .i64 0, .int .i64 0] 46 (0, 0)) (.cells #[.int .i64 x_xs_0.kind, .int .i64 x_xs_0.val] 46 (0, 0))) 6 mixed [(0, .func (.yield L) #[] #[]), (1, .pointer (some ⟨b1, 0, none⟩)), (2, .pointer (some ⟨b2, 0, none⟩)), (5, .slice A1 n1 c1), (6, .int .i64 ((n1 : Nat) : Int)), (7, .slice A2 n2 c2), (8, .int .i64 ((n2 : Nat) : Int)), (9, .int .i64 ((n1 + n2 : Nat) : Int)), (10, .bool (decide (0 < ((n1 + n2 : Nat) : Int)))), (4, .pointer (some ⟨b6, 0, none⟩)), (33, .slice A2 n2 c2), (34, .int .i64 ((n2 : Nat) : Int)), (35, .bool (decide (((n2 : Nat) : Int) = 0))), (36, .bool (decide (((n2 : Nat) : Int) = 0))), (51, .bool ((decide (((n2 : Nat) : Int) = 0)) || ((decide (0 < ((n1 : Nat) : Int))) && (decide (x_xs_0.kind < x_ys_0.kind))))), (32, .bool ((decide (((n2 : Nat) : Int) = 0)) || ((decide (0 < ((n1 : Nat) : Int))) && (decide (x_xs_0.kind < x_ys_0.kind)))))] ⟨rfl, rfl, rfl, rfl, rfl, rfl, rfl, rfl, rfl, rfl, rfl, rfl, rfl, rfl, rfl, rfl, trivial⟩ [fun v _ => v = .slice A1 n1 c1, fun v _ => v = .pointer (some ⟨bs14, os15 + 0 * 2, none⟩), fun v _ => v = .agg #[.int .i64 x_xs_0.kind, .int .i64 x_xs_0.val], fun v _ => v = .slice A1 n1 c1, fun v _ => v = .slice (if c1 = 1 then A1 else A1.map (·.add (1 * 2))) (n1 - 1) (c1 - 1), fun _ W => W.heap[b6]? = some (.cells #[.int .i64 x_xs_0.kind, .int .i64 x_xs_0.val] 46 (0, 0))] [[], [0], [1], [], [3], [2]] [0, 1, 2, 3, 4, 5] rfl rfl rfl rfl rfl rfl ⟨fun _ _ _ _ h => h, fun _ _ _ _ h => h, fun _ _ _ _ h => h, fun _ _ _ _ h => h, fun _ _ _ _ h => h, fun _ _ _ hS_ h => hS_.keep h, trivial⟩ ⟨?_, ?_, ?_, ?_, ?_, ?_, trivial⟩ ?_
      · intro W116 hW117
        refine gather_nil ?_
        refine opg_none rfl ?_
        have hne125 : b1 ≠ b6 := ne_new hb1 hN7
        have hb126 : W116.heap[b1]? = some (.cells #[.slice A1 n1 c1] 22 (0, 0)) := (but_blk (blk_ext (blk_ext hb1 hN7.ext) hW113) hW117.but (nin_cons hne125 nin_nil))
        exact op_load1 (v := .slice A1 n1 c1) rfl agg22 (cell_blk hb126 rfl) rfl ⟨told rfl rfl rfl, SB.refl⟩
      · intro W116 hW117
        rintro _ rfl
        refine gather_nil ?_
        refine opg_none rfl ?_
        exact op_indexAddr (j := 0) rfl rfl und22 sz46 (hA16 (by omega)) rfl (by omega) rfl ⟨told rfl rfl rfl, SB.refl⟩
      · intro W116 hW117
        rintro _ rfl
        refine gather_nil ?_
        refine opg_none rfl ?_
        have hB127 : Below w0.heap.size w0 W1 := (below_step (Below.refl _ _) hE3)
        have hB128 : Below w0.heap.size w0 W112 := (below_step (below_new (below_step (Below.refl _ _) hE3) hN7) hW113)
        have hB129 : Below w0.heap.size w0 W116 := (below_but (below_step (below_new (below_step (Below.refl _ _) hE3) hN7) hW113) hW117.but (ge_cons (Nat.le_trans hB127.size (Nat.le_of_eq hN7.eq.symm)) ge_nil) hB128.size)
        exact op_loadN (vs := [.int .i64 x_xs_0.kind, .int .i64 x_xs_0.val]) rfl agg46 sz46 rfl ((hc17 0 x_xs_0 (hx_xs_0 (by have := hx.len; omega))).ext hB129) rfl ⟨told rfl rfl rfl, SB.refl⟩
      · intro W116 hW117
        refine gather_nil ?_
        refine opg_none rfl ?_
        have hne130 : b1 ≠ b6 := ne_new hb1 hN7
        have hb131 : W116.heap[b1]? = some (.cells #[.slice A1 n1 c1] 22 (0, 0)) := (but_blk (blk_ext (blk_ext hb1 hN7.ext) hW113) hW117.but (nin_cons hne130 nin_nil))
        exact op_load1 (v := .slice A1 n1 c1) rfl agg22 (cell_blk hb131 rfl) rfl ⟨told rfl rfl rfl, SB.refl⟩
      · intro W116 hW117
        rintro _ rfl
        refine gather_nil ?_
        refine opg_none rfl ?_
        exact op_sliceLo (j := 1) rfl rfl und22 sz46 rfl (by omega) rfl ⟨told rfl rfl rfl, SB.refl⟩
      · intro W116 hW117
        rintro _ rfl
        refine gather_nil ?_
        refine opg_none rfl ?_
        rcases hW117.or hb115 with hq132 | hq132
        · refine op_storeW rfl rfl sz46 hq132 rfl rfl ?_
          intro W133 hP134 hb135
          exact ⟨told_n rfl hb135, SB.of_put hP134 hb135⟩
        · refine op_storeW rfl rfl sz46 hq132 rfl rfl ?_
          intro W136 hP137 hb138
          exact ⟨told_n rfl hb138, SB.of_put hP137 hb138⟩
      intro W139 hW140
      rintro _ rfl
      rintro _ rfl
      rintro _ rfl
      rintro _ rfl
      rintro _ rfl
      intro hb141
      refine gather_nil ?_
      have hne142 : b1 ≠ b6 := ne_new hb1 hN7
      have hb143 : W139.heap[b1]? = some (.cells #[.slice A1 n1 c1] 22 (0, 0)) := (but_blk (blk_ext (blk_ext hb1 hN7.ext) hW113) hW140.but (nin_cons hne142 nin_nil))
      refine wl_op rfl (op_storeW rfl rfl sz22 hb143 rfl rfl ?_)
      intro W144 hP145 hb146
      have hb146 : W144.heap[b1]? = some (.cells #[.slice (if c1 = 1 then A1 else A1.map (·.add (1 * 2))) (n1 - 1) (c1 - 1)] 22 (0, 0)) := hb146
      refine (wl_done (block_norm (then_norm ?_)))
      refine wc_seq ?_
      refine wc_region ?_
      refine wl_op rfl (op_move rfl rfl ?_)
      have hb147 : W144.heap[b6]? = some (.cells #[.int .i64 x_xs_0.kind, .int .i64 x_xs_0.val] 46 (0, 0)) := (hP145.blk hb141 hne142.symm)
      refine wl_op rfl (op_loadN (vs := [.int .i64 x_xs_0.kind, .int .i64 x_xs_0.val]) rfl agg46 sz46 rfl (cells_blk hb147) rfl ?_)
      refine wl_op rfl (op_yield rfl rfl rfl (hY pre x_xs_0 (overL (xs.drop 1) ys) _ (by rw [hS, hov]) (hJs _ _ _ hJ ((((But.of_below hN7.ext).trans (But.of_below hW113)).but_ge hW140.but (ge_cons (Nat.le_of_eq hN7.eq.symm) ge_nil) (show But [b1, b2] W1.heap.size W1 W112 from ((But.of_below hN7.ext).trans (But.of_below hW113))).size).trans (But.of_put hP145 (by simp))))) rfl ?_)
      rintro y149 W148 ⟨hlow150, hif151⟩
      refine wl_op rfl (op_not rfl rfl ?_)
      refine (wl_done (then_norm ?_))
      refine wc_cond (b := !y149) rfl (fun hc152 => ?_) (fun hc152 => ?_)
      · rw [not_t hc152, if_neg (by decide)] at hif151
        refine wc_ret ?_
        refine (block_ret (then_ret (block_ret ?_)))
        exact seq_ret (by rw [hS, hov]) hif151
      · rw [not_f hc152, if_pos rfl] at hif151
        refine wc_skip ?_
        refine (block_norm (then_norm ?_))
        have hB153 : Below w0.heap.size w0 W1 := (below_step (Below.refl _ _) hE3)
        have hB154 : Below w0.heap.size w0 W112 := (below_step (below_new (below_step (Below.refl _ _) hE3) hN7) hW113)
        have hB155 : Below w0.heap.size w0 w := (below_step (Below.refl _ _) hE0)
        have hB156 : Below w0.heap.size w0 W148 := (below_low (hP145.below (below_but (below_step (below_new (below_step (Below.refl _ _) hE3) hN7) hW113) hW140.but (ge_cons (Nat.le_trans hB153.size (Nat.le_of_eq hN7.eq.symm)) ge_nil) hB154.size) h1) hlow150 hB155.size)
        have hb157 : W148.heap[b1]? = some (.cells #[.slice (if c1 = 1 then A1 else A1.map (·.add (1 * 2))) (n1 - 1) (c1 - 1)] 22 (0, 0)) := (blk_low hb146 hlow150 (blk_lt hb1w))
        have hne158 : b2 ≠ b6 := ne_new hb2 hN7
        have hb159 : W148.heap[b2]? = some (.cells #[.slice A2 n2 c2] 22 (0, 0)) := (blk_low (hP145.blk (but_blk (blk_ext (blk_ext hb2 hN7.ext) hW113) hW140.but (nin_cons hne158 nin_nil)) hne.symm) hlow150 (blk_lt hb2w))
        refine ⟨((if c1 = 1 then A1 else A1.map (·.add (1 * 2))), (n1 - 1), (c1 - 1), (xs.drop 1), A2, n2, c2, ys, (pre ++ [x_xs_0]), W148), ⟨(rd_drop (j := 1) (c := c1) hx (by omega) (by omega)), (by dsimp only; omega), (hy), (by dsimp only; omega), (by dsimp only; rw [hS, hov, List.append_assoc]; rfl), (hb157), (hb159), (hif151), hB156⟩, ?_, ⟨rfl, rfl, rfl, trivial⟩, rfl⟩
        · dsimp only; omega
    · have HC1 := hc114
      have h0m := overL_r hl1 hl2 hx_xs_0 hx_ys_0 HC1
      refine wc_seq ?_
      refine wc_seq ?_
      refine wc_draw mixed [(0, .func (.yield L) #[] #[]), (1, .pointer (some ⟨b1, 0, none⟩)), (2, .pointer (some ⟨b2, 0, none⟩)), (5, .slice A1 n1 c1), (6, .int .i64 ((n1 : Nat) : Int)), (7, .slice A2 n2 c2), (8, .int .i64 ((n2 : Nat) : Int)), (9, .int .i64 ((n1 + n2 : Nat) : Int)), (10, .bool (decide (0 < ((n1 + n2 : Nat) : Int)))), (4, .pointer (some ⟨b6, 0, none⟩)), (33, .slice A2 n2 c2), (34, .int .i64 ((n2 : Nat) : Int)), (35, .bool (decide (((n2 : Nat) : Int) = 0))), (36, .bool (decide (((n2 : Nat) : Int) = 0))), (51, .bool ((decide (((n2 : Nat) : Int) = 0)) || ((decide (0 < ((n1 : Nat) : Int))) && (decide (x_xs_0.kind < x_ys_0.kind))))), (32, .bool ((decide (((n2 : Nat) : Int) = 0)) || ((decide (0 < ((n1 : Nat) : Int))) && (decide (x_xs_0.kind < x_ys_0.kind)))))] ⟨rfl, rfl, rfl, rfl, rfl, rfl, rfl, rfl, rfl, rfl, rfl, rfl, rfl, rfl, rfl, rfl, trivial⟩ [fun v _ => v = .slice A1 n1 c1, fun v _ => v = .int .i64 ((n1 : Nat) : Int), fun v _ => v = .bool (decide (0 < ((n1 : Nat) : Int))), fun v _ => v = .bool (decide (0 < ((n1 : Nat) : Int))), fun v _ => v = (bif (decide (0 < ((n1 : Nat) : Int))) then (.slice A1 n1 c1) else undef), fun v _ => v = (bif (decide (0 < ((n1 : Nat) : Int))) then (.pointer (some ⟨bs14, os15 + 0 * 2, none⟩)) else undef), fun v _ => v = (bif (decide (0 < ((n1 : Nat) : Int))) then (.pointer (some ⟨bs14, os15 + 0 * 2 + 0, none⟩)) else undef), fun v _ => v = (bif (decide (0 < ((n1 : Nat) : Int))) then (.int .i64 x_xs_0.kind) else undef), fun v _ => v = (bif (decide (0 < ((n1 : Nat) : Int))) then (.slice A2 n2 c2) else undef), fun v _ => v = (bif (decide (0 < ((n1 : Nat) : Int))) then (.pointer (some ⟨bs22, os23 + 0 * 2, none⟩)) else undef), fun v _ => v = (bif (decide (0 < ((n1 : Nat) : Int))) then (.pointer (some ⟨bs22, os23 + 0 * 2 + 0, none⟩)) else undef), fun v _ => v = (bif (decide (0 < ((n1 : Nat) : Int))) then (.int .i64 x_ys_0.kind) else undef), fun v _ => v = (bif (decide (0 < ((n1 : Nat) : Int))) then (.bool (decide (x_xs_0.kind = x_ys_0.kind))) else undef), fun v _ => v = .bool ((decide (0 < ((n1 : Nat) : Int))) && (decide (x_xs_0.kind = x_ys_0.kind)))] [[], [0], [1], [2], [3], [3, 4], [3, 5], [3, 6], [3], [3, 8], [3, 9], [3, 10], [3, 7, 11], [3, 12]] [0, 1, 2, 3, 13] rfl rfl rfl ⟨fun _ _ _ _ h => h, fun _ _ _ _ h => h, fun _ _ _ _ h => h, fun _ _ _ _ h => h, fun _ _ _ _ h => h, fun _ _ _ _ h => h, fun _ _ _ _ h => h, fun _ _ _ _ h => h, fun _ _ _ _ h => h, fun _ _ _ _ h => h, fun _ _ _ _ h => h, fun _ _ _ _ h => h, fun _ _ _ _ h => h, fun _ _ _ _ h => h, trivial⟩ ⟨?_, ?_, ?_, ?_, ?_, ?_, ?_, ?_, ?_, ?_, ?_, ?_, ?_, ?_, trivial⟩ ?_
      · intro W160 hW161
        refine gather_nil ?_
        refine opg_none rfl ?_
        have hb167 : W160.heap[b1]? = some (.cells #[.slice A1 n1 c1] 22 (0, 0)) := (blk_ext (blk_ext (blk_ext hb1 hN7.ext) hW113) hW161)
        exact op_load1 (v := .slice A1 n1 c1) rfl agg22 (cell_blk hb167 rfl) rfl ⟨told rfl rfl rfl, (Below.refl _ _)⟩
      · intro W160 hW161
        rintro _ rfl
        refine gather_nil ?_
        refine opg_none rfl ?_
        exact op_len_slice rfl rfl und22 rfl rfl ⟨told rfl rfl rfl, (Below.refl _ _)⟩
      · intro W160 hW161
        rintro _ rfl
        refine gather_nil ?_
        refine opg_none rfl ?_
        exact op_gtr rfl rfl rfl ⟨told rfl rfl rfl, (Below.refl _ _)⟩
      · intro W160 hW161
        rintro _ rfl
        refine gather_nil ?_
        refine opg_none rfl ?_
        exact op_move rfl rfl ⟨told rfl rfl rfl, (Below.refl _ _)⟩
      · intro W160 hW161
        rintro _ rfl
        refine gather_nil ?_
        refine opg_t1 rfl rfl (fun hg168 => ?_) (fun h => by rw [h, cond_false])
        have hd169 := of_decide_eq_true hg168
        have hb170 : W160.heap[b1]? = some (.cells #[.slice A1 n1 c1] 22 (0, 0)) := (blk_ext (blk_ext (blk_ext hb1 hN7.ext) hW113) hW161)
        exact op_load1 (v := .slice A1 n1 c1) rfl agg22 (cell_blk hb170 rfl) rfl ⟨told rfl rfl (by rw [hg168, cond_true]), (Below.refl _ _)⟩
      · intro W160 hW161
        rintro _ rfl
        intro v171 (hv172 : v171 = bif (decide (0 < ((n1 : Nat) : Int))) then (.slice A1 n1 c1) else undef)
        refine gather_nil ?_
        refine opg_t1 rfl rfl (fun hg173 => ?_) (fun h => by rw [h, cond_false])
        have hd174 := of_decide_eq_true hg173
        obtain rfl : v171 = .slice A1 n1 c1 := by rw [hv172, hg173, cond_true]
        exact op_indexAddr (j := 0) rfl rfl und22 sz46 (hA16 (by omega)) rfl (by omega) rfl ⟨told rfl rfl (by rw [hg173, cond_true]), (Below.refl _ _)⟩
      · intro W160 hW161
        rintro _ rfl
        intro v175 (hv176 : v175 = bif (decide (0 < ((n1 : Nat) : Int))) then (.pointer (some ⟨bs14, os15 + 0 * 2, none⟩)) else undef)
        refine gather_nil ?_
        refine opg_t1 rfl rfl (fun hg177 => ?_) (fun h => by rw [h, cond_false])
        obtain rfl : v175 = .pointer (some ⟨bs14, os15 + 0 * 2, none⟩) := by rw [hv176, hg177, cond_true]
        exact op_fieldAddr rfl fa46_0 rfl ⟨told rfl rfl (by rw [hg177, cond_true]), (Below.refl _ _)⟩
      · intro W160 hW161
        rintro _ rfl
        intro v178 (hv179 : v178 = bif (decide (0 < ((n1 : Nat) : Int))) then (.pointer (some ⟨bs14, os15 + 0 * 2 + 0, none⟩)) else undef)
        refine gather_nil ?_
        refine opg_t1 rfl rfl (fun hg180 => ?_) (fun h => by rw [h, cond_false])
        have hd181 := of_decide_eq_true hg180
        obtain rfl : v178 = .pointer (some ⟨bs14, os15 + 0 * 2 + 0, none⟩) := by rw [hv179, hg180, cond_true]
        have hB182 : Below w0.heap.size w0 W160 := (below_step (below_step (below_new (below_step (Below.refl _ _) hE3) hN7) hW113) hW161)
        exact op_load1 (v := .int .i64 x_xs_0.kind) rfl agg3 (((hc17 0 x_xs_0 (hx_xs_0 (by have := hx.len; omega))).ext hB182).at (i := 0) rfl) rfl ⟨told rfl rfl (by rw [hg180, cond_true]), (Below.refl _ _)⟩
      · intro W160 hW161
        rintro _ rfl
        refine gather_nil ?_
        refine opg_t1 rfl rfl (fun hg183 => ?_) (fun h => by rw [h, cond_false])
        have hd184 := of_decide_eq_true hg183
        have hb185 : W160.heap[b2]? = some (.cells #[.slice A2 n2 c2] 22 (0, 0)) := (blk_ext (blk_ext (blk_ext hb2 hN7.ext) hW113) hW161)
        exact op_load1 (v := .slice A2 n2 c2) rfl agg22 (cell_blk hb185 rfl) rfl ⟨told rfl rfl (by rw [hg183, cond_true]), (Below.refl _ _)⟩
      · intro W160 hW161
        rintro _ rfl
        intro v186 (hv187 : v186 = bif (decide (0 < ((n1 : Nat) : Int))) then (.slice A2 n2 c2) else undef)
        refine gather_nil ?_
        refine opg_t1 rfl rfl (fun hg188 => ?_) (fun h => by rw [h, cond_false])
        have hd189 := of_decide_eq_true hg188
        obtain rfl : v186 = .slice A2 n2 c2 := by rw [hv187, hg188, cond_true]
        exact op_indexAddr (j := 0) rfl rfl und22 sz46 (hA24 (by omega)) rfl (by omega) rfl ⟨told rfl rfl (by rw [hg188, cond_true]), (Below.refl _ _)⟩
      · intro W160 hW161
        rintro _ rfl
        intro v190 (hv191 : v190 = bif (decide (0 < ((n1 : Nat) : Int))) then (.pointer (some ⟨bs22, os23 + 0 * 2, none⟩)) else undef)
        refine gather_nil ?_
        refine opg_t1 rfl rfl (fun hg192 => ?_) (fun h => by rw [h, cond_false])
        obtain rfl : v190 = .pointer (some ⟨bs22, os23 + 0 * 2, none⟩) := by rw [hv191, hg192, cond_true]
        exact op_fieldAddr rfl fa46_0 rfl ⟨told rfl rfl (by rw [hg192, cond_true]), (Below.refl _ _)⟩
      · intro W160 hW161
        rintro _ rfl
        intro v193 (hv194 : v193 = bif (decide (0 < ((n1 : Nat) : Int))) then (.pointer (some ⟨bs22, os23 + 0 * 2 + 0, none⟩)) else undef)
        refine gather_nil ?_
        refine opg_t1 rfl rfl (fun hg195 => ?_) (fun h => by rw [h, cond_false])
        have hd196 := of_decide_eq_true hg195
        obtain rfl : v193 = .pointer (some ⟨bs22, os23 + 0 * 2 + 0, none⟩) := by rw [hv194, hg195, cond_true]
        have hB197 : Below w0.heap.size w0 W160 := (below_step (below_step (below_new (below_step (Below.refl _ _) hE3) hN7) hW113) hW161)
        exact op_load1 (v := .int .i64 x_ys_0.kind) rfl agg3 (((hc25 0 x_ys_0 (hx_ys_0 (by have := hy.len; omega))).ext hB197).at (i := 0) rfl) rfl ⟨told rfl rfl (by rw [hg195, cond_true]), (Below.refl _ _)⟩
      · intro W160 hW161
        rintro _ rfl
        intro v198 (hv199 : v198 = bif (decide (0 < ((n1 : Nat) : Int))) then (.int .i64 x_xs_0.kind) else undef)
        intro v200 (hv201 : v200 = bif (decide (0 < ((n1 : Nat) : Int))) then (.int .i64 x_ys_0.kind) else undef)
        refine gather_nil ?_
        refine opg_t1 rfl rfl (fun hg202 => ?_) (fun h => by rw [h, cond_false])
        have hd203 := of_decide_eq_true hg202
        obtain rfl : v198 = .int .i64 x_xs_0.kind := by rw [hv199, hg202, cond_true]
        obtain rfl : v200 = .int .i64 x_ys_0.kind := by rw [hv201, hg202, cond_true]
        exact op_eql rfl rfl rfl ⟨told rfl rfl (by rw [hg202, cond_true]), (Below.refl _ _)⟩
      · intro W160 hW161
        rintro _ rfl
        intro v204 (hv205 : v204 = bif (decide (0 < ((n1 : Nat) : Int))) then (.bool (decide (x_xs_0.kind = x_ys_0.kind))) else undef)
        refine gather_nil ?_
        refine opg_none rfl ?_
        exact op_and rfl rfl rfl (fun h => by rw [hv205, h, cond_true]) rfl ⟨told rfl rfl rfl, (Below.refl _ _)⟩
      intro W206 hW207
      rintro _ rfl
      rintro _ rfl
      rintro _ rfl
      rintro _ rfl
      rintro _ rfl
      refine gather_nil ?_
      refine (then_norm ?_)
      refine wc_cond (b := (decide (0 < ((n1 : Nat) : Int))) && (decide (x_xs_0.kind = x_ys_0.kind))) rfl (fun hc208 => ?_) (fun hc208 => ?_)
      · obtain ⟨h0n, hov⟩ := overL_eq hl1 hl2 hx_xs_0 hx_ys_0 h0m hc208
        refine wc_region ?_
        have hb209 : W206.heap[b1]? = some (.cells #[.slice A1 n1 c1] 22 (0, 0)) := (blk_ext (blk_ext (blk_ext hb1 hN7.ext) hW113) hW207)
        refine wl_op rfl (op_load1 (v := .slice A1 n1 c1) rfl agg22 (cell_blk hb209 rfl) rfl ?_)
        refine wl_op rfl (op_sliceLo (j := 1) rfl rfl und22 sz46 rfl (by omega) rfl ?_)
        refine wl_op rfl (op_storeW rfl rfl sz22 hb209 rfl rfl ?_)
        intro W210 hP211 hb212
        have hb212 : W210.heap[b1]? = some (.cells #[.slice (if c1 = 1 then A1 else A1.map (·.add (1 * 2))) (n1 - 1) (c1 - 1)] 22 (0, 0)) := hb212
        refine (wl_done (then_norm ?_))
        have hne213 : b1 ≠ b6 := ne_new hb1 hN7
        have hb214 : W210.heap[b6]? = some (.cells #[.int .i64 0, .int .i64 0] 46 (0, 0)) := (hP211.blk (blk_ext (blk_ext hb8 hW113) hW207) hne213.symm)
        refine wc_draw_tailS (sr_sb b6 (.cells #[.int .i64 0, .int .i64 0] 46 (0, 0)) (.cells #[.int .i64 x_ys_0.kind, .int .i64 x_ys_0.val] 46 (0, 0))) 6 mixed [(0, .func (.yield L) #[] #[]), (1, .pointer (some ⟨b1, 0, none⟩)), (2, .pointer (some ⟨b2, 0, none⟩)), (5, .slice A1 n1 c1), (6, .int .i64 ((n1 : Nat) : Int)), (7, .slice A2 n2 c2), (8, .int .i64 ((n2 : Nat) : Int)), (9, .int .i64 ((n1 + n2 : Nat) : Int)), (10, .bool (decide (0 < ((n1 + n2 : Nat) : Int)))), (4, .pointer (some ⟨b6, 0, none⟩)), (33, .slice A2 n2 c2), (34, .int .i64 ((n2 : Nat) : Int)), (35, .bool (decide (((n2 : Nat) : Int) = 0))), (36, .bool (decide (((n2 : Nat) : Int) = 0))), (51, .bool ((decide (((n2 : Nat) : Int) = 0)) || ((decide (0 < ((n1 : Nat) : Int))) && (decide (x_xs_0.kind < x_ys_0.kind))))), (32, .bool ((decide (((n2 : Nat) : Int) = 0)) || ((decide (0 < ((n1 : Nat) : Int))) && (decide (x_xs_0.kind < x_ys_0.kind))))), (11, .slice A1 n1 c1), (12, .int .i64 ((n1 : Nat) : Int)), (13, .bool (decide (0 < ((n1 : Nat) : Int)))), (14, .bool (decide (0 < ((n1 : Nat) : Int)))), (24, .bool ((decide (0 < ((n1 : Nat) : Int))) && (decide (x_xs_0.kind = x_ys_0.kind)))), (25, .slice A1 n1 c1), (26, .slice (if c1 = 1 then A1 else A1.map (·.add (1 * 2))) (n1 - 1) (c1 - 1))] ⟨rfl, rfl, rfl, rfl, rfl, rfl, rfl, rfl, rfl, rfl, rfl, rfl, rfl, rfl, rfl, rfl, rfl, rfl, rfl, rfl, rfl, rfl, rfl, trivial⟩ [fun v _ => v = .slice A2 n2 c2, fun v _ => v = .pointer (some ⟨bs22, os23 + 0 * 2, none⟩), fun v _ => v = .agg #[.int .i64 x_ys_0.kind, .int .i64 x_ys_0.val], fun v _ => v = .slice A2 n2 c2, fun v _ => v = .slice (if c2 = 1 then A2 else A2.map (·.add (1 * 2))) (n2 - 1) (c2 - 1), fun _ W => W.heap[b6]? = some (.cells #[.int .i64 x_ys_0.kind, .int .i64 x_ys_0.val] 46 (0, 0))] [[], [0], [1], [], [3], [2]] [0, 1, 2, 3, 4, 5] rfl rfl rfl rfl rfl rfl ⟨fun _ _ _ _ h => h, fun _ _ _ _ h => h, fun _ _ _ _ h => h, fun _ _ _ _ h => h, fun _ _ _ _ h => h, fun _ _ _ hS_ h => hS_.keep h, trivial⟩ ⟨?_, ?_, ?_, ?_, ?_, ?_, trivial⟩ ?_
        · intro W215 hW216
          refine gather_nil ?_
          refine opg_none rfl ?_
          have hne224 : b2 ≠ b6 := ne_new hb2 hN7
          have hb225 : W215.heap[b2]? = some (.cells #[.slice A2 n2 c2] 22 (0, 0)) := (but_blk (hP211.blk (blk_ext (blk_ext (blk_ext hb2 hN7.ext) hW113) hW207) hne.symm) hW216.but (nin_cons hne224 nin_nil))
          exact op_load1 (v := .slice A2 n2 c2) rfl agg22 (cell_blk hb225 rfl) rfl ⟨told rfl rfl rfl, SB.refl⟩
        · intro W215 hW216
          rintro _ rfl
          refine gather_nil ?_
          refine opg_none rfl ?_
          exact op_indexAddr (j := 0) rfl rfl und22 sz46 (hA24 (by omega)) rfl (by omega) rfl ⟨told rfl rfl rfl, SB.refl⟩
        · intro W215 hW216
          rintro _ rfl
          refine gather_nil ?_
          refine opg_none rfl ?_
          have hB226 : Below w0.heap.size w0 W1 := (below_step (Below.refl _ _) hE3)
          have hB227 : Below w0.heap.size w0 W210 := (hP211.below (below_step (below_step (below_new (below_step (Below.refl _ _) hE3) hN7) hW113) hW207) h1)
          have hB228 : Below w0.heap.size w0 W215 := (below_but (hP211.below (below_step (below_step (below_new (below_step (Below.refl _ _) hE3) hN7) hW113) hW207) h1) hW216.but (ge_cons (Nat.le_trans hB226.size (Nat.le_of_eq hN7.eq.symm)) ge_nil) hB227.size)
          exact op_loadN (vs := [.int .i64 x_ys_0.kind, .int .i64 x_ys_0.val]) rfl agg46 sz46 rfl ((hc25 0 x_ys_0 (hx_ys_0 (by have := hy.len; omega))).ext hB228) rfl ⟨told rfl rfl rfl, SB.refl⟩
        · intro W215 hW216
          refine gather_nil ?_
          refine opg_none rfl ?_
          have hne229 : b2 ≠ b6 := ne_new hb2 hN7
          have hb230 : W215.heap[b2]? = some (.cells #[.slice A2 n2 c2] 22 (0, 0)) := (but_blk (hP211.blk (blk_ext (blk_ext (blk_ext hb2 hN7.ext) hW113) hW207) hne.symm) hW216.but (nin_cons hne229 nin_nil))
          exact op_load1 (v := .slice A2 n2 c2) rfl agg22 (cell_blk hb230 rfl) rfl ⟨told rfl rfl rfl, SB.refl⟩
        · intro W215 hW216
          rintro _ rfl
          refine gather_nil ?_
          refine opg_none rfl ?_
          exact op_sliceLo (j := 1) rfl rfl und22 sz46 rfl (by omega) rfl ⟨told rfl rfl rfl, SB.refl⟩
        · intro W215 hW216
          rintro _ rfl
          refine gather_nil ?_
          refine opg_none rfl ?_
          rcases hW216.or hb214 with hq231 | hq231
          · refine op_storeW rfl rfl sz46 hq231 rfl rfl ?_
            intro W232 hP233 hb234
            exact ⟨told_n rfl hb234, SB.of_put hP233 hb234⟩
          · refine op_storeW rfl rfl sz46 hq231 rfl rfl ?_
            intro W235 hP236 hb237
            exact ⟨told_n rfl hb237, SB.of_put hP236 hb237⟩
        intro W238 hW239
        rintro _ rfl
        rintro _ rfl
        rintro _ rfl
        rintro _ rfl
        rintro _ rfl
        intro hb240
        refine gather_nil ?_
        have hne241 : b2 ≠ b6 := ne_new hb2 hN7
        have hb242 : W238.heap[b2]? = some (.cells #[.slice A2 n2 c2] 22 (0, 0)) := (but_blk (hP211.blk (blk_ext (blk_ext (blk_ext hb2 hN7.ext) hW113) hW207) hne.symm) hW239.but (nin_cons hne241 nin_nil))
        refine wl_op rfl (op_storeW rfl rfl sz22 hb242 rfl rfl ?_)
        intro W243 hP244 hb245
        have hb245 : W243.heap[b2]? = some (.cells #[.slice (if c2 = 1 then A2 else A2.map (·.add (1 * 2))) (n2 - 1) (c2 - 1)] 22 (0, 0)) := hb245
        refine (wl_done (block_norm (then_norm ?_)))
        refine wc_seq ?_
        refine wc_region ?_
        refine wl_op rfl (op_move rfl rfl ?_)
        have hb246 : W243.heap[b6]? = some (.cells #[.int .i64 x_ys_0.kind, .int .i64 x_ys_0.val] 46 (0, 0)) := (hP244.blk hb240 hne241.symm)
        refine wl_op rfl (op_loadN (vs := [.int .i64 x_ys_0.kind, .int .i64 x_ys_0.val]) rfl agg46 sz46 rfl (cells_blk hb246) rfl ?_)
        refine wl_op rfl (op_yield rfl rfl rfl (hY pre x_ys_0 (overL (xs.drop 1) (ys.drop 1)) _ (by rw [hS, hov]) (hJs _ _ _ hJ ((((((But.of_below hN7.ext).trans (But.of_below hW113)).trans (But.of_below hW207)).trans (But.of_put hP211 (by simp))).but_ge hW239.but (ge_cons (Nat.le_of_eq hN7.eq.symm) ge_nil) (show But [b1, b2] W1.heap.size W1 W210 from ((((But.of_below hN7.ext).trans (But.of_below hW113)).trans (But.of_below hW207)).trans (But.of_put hP211 (by simp)))).size).trans (But.of_put hP244 (by simp))))) rfl ?_)
        rintro y248 W247 ⟨hlow249, hif250⟩
        refine wl_op rfl (op_not rfl rfl ?_)
        refine (wl_done (then_norm ?_))
        refine wc_cond (b := !y248) rfl (fun hc251 => ?_) (fun hc251 => ?_)
        · rw [not_t hc251, if_neg (by decide)] at hif250
          refine wc_ret ?_
          refine (block_ret (then_ret (block_ret ?_)))
          exact seq_ret (by rw [hS, hov]) hif250
        · rw [not_f hc251, if_pos rfl] at hif250
          refine wc_skip ?_
          refine (block_norm (then_norm ?_))
          have hB252 : Below w0.heap.size w0 W1 := (below_step (Below.refl _ _) hE3)
          have hB253 : Below w0.heap.size w0 W210 := (hP211.below (below_step (below_step (below_new (below_step (Below.refl _ _) hE3) hN7) hW113) hW207) h1)
          have hB254 : Below w0.heap.size w0 w := (below_step (Below.refl _ _) hE0)
          have hB255 : Below w0.heap.size w0 W247 := (below_low (hP244.below (below_but (hP211.below (below_step (below_step (below_new (below_step (Below.refl _ _) hE3) hN7) hW113) hW207) h1) hW239.but (ge_cons (Nat.le_trans hB252.size (Nat.le_of_eq hN7.eq.symm)) ge_nil) hB253.size) h2) hlow249 hB254.size)
          have hb256 : W247.heap[b1]? = some (.cells #[.slice (if c1 = 1 then A1 else A1.map (·.add (1 * 2))) (n1 - 1) (c1 - 1)] 22 (0, 0)) := (blk_low (hP244.blk (but_blk hb212 hW239.but (nin_cons hne213 nin_nil)) hne) hlow249 (blk_lt hb1w))
          have hb257 : W247.heap[b2]? = some (.cells #[.slice (if c2 = 1 then A2 else A2.map (·.add (1 * 2))) (n2 - 1) (c2 - 1)] 22 (0, 0)) := (blk_low hb245 hlow249 (blk_lt hb2w))
          refine ⟨((if c1 = 1 then A1 else A1.map (·.add (1 * 2))), (n1 - 1), (c1 - 1), (xs.drop 1), (if c2 = 1 then A2 else A2.map (·.add (1 * 2))), (n2 - 1), (c2 - 1), (ys.drop 1), (pre ++ [x_ys_0]), W247), ⟨(rd_drop (j := 1) (c := c1) hx (by omega) (by omega)), (by dsimp only; omega), (rd_drop (j := 1) (c := c2) hy (by omega) (by omega)), (by dsimp only; omega), (by dsimp only; rw [hS, hov, List.append_assoc]; rfl), (hb256), (hb257), (hif250), hB255⟩, ?_, ⟨rfl, rfl, rfl, trivial⟩, rfl⟩
          · dsimp only; omega
      · have hov := overL_gt hl1 hl2 hx_xs_0 hx_ys_0 h0m HC1 hc208
        refine wc_skip ?_
        refine (then_norm ?_)
        have hb258 : W206.heap[b6]? = some (.cells #[.int .i64 0, .int .i64 0] 46 (0, 0)) := (blk_ext (blk_ext hb8 hW113) hW207)
        refine wc_draw_tailS (sr_sb b6 (.cells #[.int .i64 0, .int .i64 0] 46 (0, 0)) (.cells #[.int .i64 x_ys_0.kind, .int .i64 x_ys_0.val] 46 (0, 0))) 6 mixed [(0, .func (.yield L) #[] #[]), (1, .pointer (some ⟨b1, 0, none⟩)), (2, .pointer (some ⟨b2, 0, none⟩)), (5, .slice A1 n1 c1), (6, .int .i64 ((n1 : Nat) : Int)), (7, .slice A2 n2 c2), (8, .int .i64 ((n2 : Nat) : Int)), (9, .int .i64 ((n1 + n2 : Nat) : Int)), (10, .bool (decide (0 < ((n1 + n2 : Nat) : Int)))), (4, .pointer (some ⟨b6, 0, none⟩)), (33, .slice A2 n2 c2), (34, .int .i64 ((n2 : Nat) : Int)), (35, .bool (decide (((n2 : Nat) : Int) = 0))), (36, .bool (decide (((n2 : Nat) : Int) = 0))), (51, .bool ((decide (((n2 : Nat) : Int) = 0)) || ((decide (0 < ((n1 : Nat) : Int))) && (decide (x_xs_0.kind < x_ys_0.kind))))), (32, .bool ((decide (((n2 : Nat) : Int) = 0)) || ((decide (0 < ((n1 : Nat) : Int))) && (decide (x_xs_0.kind < x_ys_0.kind))))), (11, .slice A1 n1 c1), (12, .int .i64 ((n1 : Nat) : Int)), (13, .bool (decide (0 < ((n1 : Nat) : Int)))), (14, .bool (decide (0 < ((n1 : Nat) : Int)))), (24, .bool ((decide (0 < ((n1 : Nat) : Int))) && (decide (x_xs_0.kind = x_ys_0.kind))))] ⟨rfl, rfl, rfl, rfl, rfl, rfl, rfl, rfl, rfl, rfl, rfl, rfl, rfl, rfl, rfl, rfl, rfl, rfl, rfl, rfl, rfl, trivial⟩ [fun v _ => v = .slice A2 n2 c2, fun v _ => v = .pointer (some ⟨bs22, os23 + 0 * 2, none⟩), fun v _ => v = .agg #[.int .i64 x_ys_0.kind, .int .i64 x_ys_0.val], fun v _ => v = .slice A2 n2 c2, fun v _ => v = .slice (if c2 = 1 then A2 else A2.map (·.add (1 * 2))) (n2 - 1) (c2 - 1), fun _ W => W.heap[b6]? = some (.cells #[.int .i64 x_ys_0.kind, .int .i64 x_ys_0.val] 46 (0, 0))] [[], [0], [1], [], [3], [2]] [0, 1, 2, 3, 4, 5] rfl rfl rfl rfl rfl rfl ⟨fun _ _ _ _ h => h, fun _ _ _ _ h => h, fun _ _ _ _ h => h, fun _ _ _ _ h => h, fun _ _ _ _ h => h, fun _ _ _ hS_ h => hS_.keep h, trivial⟩ ⟨?_, ?_, ?_, ?_, ?_, ?_, trivial⟩ ?_
        · intro W259 hW260
          refine gather_nil ?_
          refine opg_none rfl ?_
          have hne268 : b2 ≠ b6 := ne_new hb2 hN7
          have hb269 : W259.heap[b2]? = some (.cells #[.slice A2 n2 c2] 22 (0, 0)) := (but_blk (blk_ext (blk_ext (blk_ext hb2 hN7.ext) hW113) hW207) hW260.but (nin_cons hne268 nin_nil))
          exact op_load1 (v := .slice A2 n2 c2) rfl agg22 (cell_blk hb269 rfl) rfl ⟨told rfl rfl rfl, SB.refl⟩
        · intro W259 hW260
          rintro _ rfl
          refine gather_nil ?_
          refine opg_none rfl ?_
          exact op_indexAddr (j := 0) rfl rfl und22 sz46 (hA24 (by omega)) rfl (by omega) rfl ⟨told rfl rfl rfl, SB.refl⟩
        · intro W259 hW260
          rintro _ rfl
          refine gather_nil ?_
          refine opg_none rfl ?_
          have hB270 : Below w0.heap.size w0 W1 := (below_step (Below.refl _ _) hE3)
          have hB271 : Below w0.heap.size w0 W206 := (below_step (below_step (below_new (below_step (Below.refl _ _) hE3) hN7) hW113) hW207)
          have hB272 : Below w0.heap.size w0 W259 := (below_but (below_step (below_step (below_new (below_step (Below.refl _ _) hE3) hN7) hW113) hW207) hW260.but (ge_cons (Nat.le_trans hB270.size (Nat.le_of_eq hN7.eq.symm)) ge_nil) hB271.size)
          exact op_loadN (vs := [.int .i64 x_ys_0.kind, .int .i64 x_ys_0.val]) rfl agg46 sz46 rfl ((hc25 0 x_ys_0 (hx_ys_0 (by have := hy.len; omega))).ext hB272) rfl ⟨told rfl rfl rfl, SB.refl⟩
        · intro W259 hW260
          refine gather_nil ?_
          refine opg_none rfl ?_
          have hne273 : b2 ≠ b6 := ne_new hb2 hN7
          have hb274 : W259.heap[b2]? = some (.cells #[.slice A2 n2 c2] 22 (0, 0)) := (but_blk (blk_ext (blk_ext (blk_ext hb2 hN7.ext) hW113) hW207) hW260.but (nin_cons hne273 nin_nil))
          exact op_load1 (v := .slice A2 n2 c2) rfl agg22 (cell_blk hb274 rfl) rfl ⟨told rfl rfl rfl, SB.refl⟩
        · intro W259 hW260
          rintro _ rfl
          refine gather_nil ?_
          refine opg_none rfl ?_
          exact op_sliceLo (j := 1) rfl rfl und22 sz46 rfl (by omega) rfl ⟨told rfl rfl rfl, SB.refl⟩
        · intro W259 hW260
          rintro _ rfl
          refine gather_nil ?_
          refine opg_none rfl ?_
          rcases hW260.or hb258 with hq275 | hq275
          · refine op_storeW rfl rfl sz46 hq275 rfl rfl ?_
            intro W276 hP277 hb278
            exact ⟨told_n rfl hb278, SB.of_put hP277 hb278⟩
          · refine op_storeW rfl rfl sz46 hq275 rfl rfl ?_
            intro W279 hP280 hb281
            exact ⟨told_n rfl hb281, SB.of_put hP280 hb281⟩
        intro W282 hW283
        rintro _ rfl
        rintro _ rfl
        rintro _ rfl
        rintro _ rfl
        rintro _ rfl
        intro hb284
        refine gather_nil ?_
        have hne285 : b2 ≠ b6 := ne_new hb2 hN7
        have hb286 : W282.heap[b2]? = some (.cells #[.slice A2 n2 c2] 22 (0, 0)) := (but_blk (blk_ext (blk_ext (blk_ext hb2 hN7.ext) hW113) hW207) hW283.but (nin_cons hne285 nin_nil))
        refine wl_op rfl (op_storeW rfl rfl sz22 hb286 rfl rfl ?_)
        intro W287 hP288 hb289
        have hb289 : W287.heap[b2]? = some (.cells #[.slice (if c2 = 1 then A2 else A2.map (·.add (1 * 2))) (n2 - 1) (c2 - 1)] 22 (0, 0)) := hb289
        refine (wl_done (block_norm (then_norm ?_)))
        refine wc_seq ?_
        refine wc_region ?_
        refine wl_op rfl (op_move rfl rfl ?_)
        have hb290 : W287.heap[b6]? = some (.cells #[.int .i64 x_ys_0.kind, .int .i64 x_ys_0.val] 46 (0, 0)) := (hP288.blk hb284 hne285.symm)
        refine wl_op rfl (op_loadN (vs := [.int .i64 x_ys_0.kind, .int .i64 x_ys_0.val]) rfl agg46 sz46 rfl (cells_blk hb290) rfl ?_)
        refine wl_op rfl (op_yield rfl rfl rfl (hY pre x_ys_0 (overL xs (ys.drop 1)) _ (by rw [hS, hov]) (hJs _ _ _ hJ (((((But.of_below hN7.ext).trans (But.of_below hW113)).trans (But.of_below hW207)).but_ge hW283.but (ge_cons (Nat.le_of_eq hN7.eq.symm) ge_nil) (show But [b1, b2] W1.heap.size W1 W206 from (((But.of_below hN7.ext).trans (But.of_below hW113)).trans (But.of_below hW207))).size).trans (But.of_put hP288 (by simp))))) rfl ?_)
        rintro y292 W291 ⟨hlow293, hif294⟩
        refine wl_op rfl (op_not rfl rfl ?_)
        refine (wl_done (then_norm ?_))
        refine wc_cond (b := !y292) rfl (fun hc295 => ?_) (fun hc295 => ?_)
        · rw [not_t hc295, if_neg (by decide)] at hif294
          refine wc_ret ?_
          refine (block_ret (then_ret (block_ret ?_)))
          exact seq_ret (by rw [hS, hov]) hif294
        · rw [not_f hc295, if_pos rfl] at hif294
          refine wc_skip ?_
          refine (block_norm (then_norm ?_))
          have hB296 : Below w0.heap.size w0 W1 := (below_step (Below.refl _ _) hE3)
          have hB297 : Below w0.heap.size w0 W206 := (below_step (below_step (below_new (below_step (Below.refl _ _) hE3) hN7) hW113) hW207)
          have hB298 : Below w0.heap.size w0 w := (below_step (Below.refl _ _) hE0)
          have hB299 : Below w0.heap.size w0 W291 := (below_low (hP288.below (below_but (below_step (below_step (below_new (below_step (Below.refl _ _) hE3) hN7) hW113) hW207) hW283.but (ge_cons (Nat.le_trans hB296.size (Nat.le_of_eq hN7.eq.symm)) ge_nil) hB297.size) h2) hlow293 hB298.size)
          have hne300 : b1 ≠ b6 := ne_new hb1 hN7
          have hb301 : W291.heap[b1]? = some (.cells #[.slice A1 n1 c1] 22 (0, 0)) := (blk_low (hP288.blk (but_blk (blk_ext (blk_ext (blk_ext hb1 hN7.ext) hW113) hW207) hW283.but (nin_cons hne300 nin_nil)) hne) hlow293 (blk_lt hb1w))
          have hb302 : W291.heap[b2]? = some (.cells #[.slice (if c2 = 1 then A2 else A2.map (·.add (1 * 2))) (n2 - 1) (c2 - 1)] 22 (0, 0)) := (blk_low hb289 hlow293 (blk_lt hb2w))
          refine ⟨(A1, n1, c1, xs, (if c2 = 1 then A2 else A2.map (·.add (1 * 2))), (n2 - 1), (c2 - 1), (ys.drop 1), (pre ++ [x_ys_0]), W291), ⟨(hx), (by dsimp only; omega), (rd_drop (j := 1) (c := c2) hy (by omega) (by omega)), (by dsimp only; omega), (by dsimp only; rw [hS, hov, List.append_assoc]; rfl), (hb301), (hb302), (hif294), hB299⟩, ?_, ⟨rfl, rfl, rfl, trivial⟩, rfl⟩
          · dsimp only; omega
  · have hc4r := hc4
    have hc4 := of_decide_eq_false hc4
    have HC0 := hc4
    refine wc_exit ?_
    refine (then_exit (then_exit (block_here ?_)))
    exact seq_done (by rw [hS, over_end hl1 hl2 HC0, List.append_nil]; exact hJ)

end Go.Eng

set_option linter.unusedVariables false
set_option maxRecDepth 100000
namespace Go.Eng
open Go.RowKit Go.Shelf Go.Proofs Pol

theorem ent54 : Enters Try.prog 54 := enters_of Try.func54 (by kernel_rfl) rfl
theorem ent53 : Enters Try.prog 53 := enters_of Try.func53 (by kernel_rfl) rfl
theorem ent77 : Enters Try.prog 77 := enters_of Try.func77 (by kernel_rfl) rfl

theorem overL_len (a b : List Pol) : (overL a b).length ≤ a.length + b.length := by
  fun_induction overL a b with
  | case1 ys => simp
  | case2 x xs ih => simp at ih ⊢; omega
  | case3 x xs y ys h ih => simp at ih ⊢; omega
  | case4 x xs y ys h1 h2 ih => simp at ih ⊢; omega
  | case5 x xs y ys h1 h2 ih => simp at ih ⊢; omega
def overR (a b : List Pol) : List Pol := if validSet a = true ∧ validSet b = true then overL a b else []
def overE (a b : List Pol) : Int := if validSet a = true ∧ validSet b = true then 0 else 1

theorem Over_spec {w : World} {A : Option Addr} {n c : Nat} {a : List Pol} {A2 : Option Addr} {n2 c2 : Nat} {b : List Pol} (hs : RdP w A n a) (hs2 : RdP w A2 n2 b) (hc : n ≤ c) (hc2 : n2 ≤ c2) (hn : n ≤ 1000) (hn2 : n2 ≤ 1000) : Ret Try.prog 15 #[.slice A n c, .slice A2 n2 c2] w (fun v w' => ∃ (A1 : Option Addr) (n1 c1 : Nat), v = .tuple #[.slice A1 n1 c1, .int .i64 (overE a b)] ∧ RdP w' A1 n1 (overR a b) ∧ n1 ≤ c1 ∧ Below w.heap.size w w') := by
  obtain ⟨bs1, os2, hA3, hc4⟩ := hs.flat
  have hln5 := hs.len
  have hbd6 := hs.bd
  have hlen_a := hs.len
  obtain ⟨bs7, os8, hA9, hc10⟩ := hs2.flat
  have hln11 := hs2.len
  have hbd12 := hs2.bd
  have hlen_b := hs2.len
  refine ret_of (args := [.slice A n c, .slice A2 n2 c2]) Try.func15 rfl Try.ntmps15 rfl (rs := [.tmp 4, .tmp 5]) rfl ?_
  refine wc_seq ?_
  refine wc_region ?_
  refine wl_op rfl (op_assign rfl rfl ?_)
  refine wl_op rfl (op_assign rfl rfl ?_)
  refine (wl_done (then_norm ?_))
  refine wc_seq ?_
  refine wc_seq ?_
  refine wc_text [(0, .slice A n c), (1, .slice A2 n2 c2), (4, .slice none 0 0), (5, .int .i64 0)] ⟨rfl, rfl, rfl, rfl, trivial⟩ [fun v _ => v = .slice A n c, fun v _ => v = .bool (validSet a), fun v _ => v = .bool (!(validSet a)), fun v _ => v = .bool (!(validSet a)), fun v _ => v = (bif (!(!(validSet a))) then (.slice A2 n2 c2) else undef), fun v _ => v = (bif (!(!(validSet a))) then (.bool (validSet b)) else undef), fun v _ => v = (bif (!(!(validSet a))) then (.bool (!(validSet b))) else undef), fun v _ => v = .bool ((!(validSet a)) || (!(validSet b)))] [[], [0], [1], [2], [3], [3, 4], [3, 5], [3, 6]] [7] rfl rfl rfl ⟨fun _ _ _ _ h => h, fun _ _ _ _ h => h, fun _ _ _ _ h => h, fun _ _ _ _ h => h, fun _ _ _ _ h => h, fun _ _ _ _ h => h, fun _ _ _ _ h => h, fun _ _ _ _ h => h, trivial⟩ ⟨?_, ?_, ?_, ?_, ?_, ?_, ?_, ?_, trivial⟩ ?_
  · intro W13 hW14
    refine gather_nil ?_
    refine opg_none rfl ?_
    exact op_move rfl rfl ⟨told rfl rfl rfl, (Below.refl _ _)⟩
  · intro W13 hW14
    rintro _ rfl
    refine gather_nil ?_
    refine opg_none rfl ?_
    have hB17 : Below w.heap.size w W13 := (below_step (Below.refl _ _) hW14)
    refine op_call ent27 rfl (ValidSet_spec (hs.ext (flat_lifts _) hB17)) rfl ?_
    rintro _ W18 ⟨rfl, hE19⟩
    exact ⟨told rfl rfl rfl, hE19⟩
  · intro W13 hW14
    rintro _ rfl
    refine gather_nil ?_
    refine opg_none rfl ?_
    exact op_not rfl rfl ⟨told rfl rfl rfl, (Below.refl _ _)⟩
  · intro W13 hW14
    rintro _ rfl
    refine gather_nil ?_
    refine opg_none rfl ?_
    exact op_move rfl rfl ⟨told rfl rfl rfl, (Below.refl _ _)⟩
  · intro W13 hW14
    rintro _ rfl
    refine gather_nil ?_
    refine opg_f1 rfl rfl (fun hg20 => ?_) (fun h => by rw [h, cond_false])
    exact op_move rfl rfl ⟨told rfl rfl (by rw [hg20, cond_true]), (Below.refl _ _)⟩
  · intro W13 hW14
    rintro _ rfl
    intro v21 (hv22 : v21 = bif (!(!(validSet a))) then (.slice A2 n2 c2) else undef)
    refine gather_nil ?_
    refine opg_f1 rfl rfl (fun hg23 => ?_) (fun h => by rw [h, cond_false])
    obtain rfl : v21 = .slice A2 n2 c2 := by rw [hv22, hg23, cond_true]
    have hB24 : Below w.heap.size w W13 := (below_step (Below.refl _ _) hW14)
    refine op_call ent27 rfl (ValidSet_spec (hs2.ext (flat_lifts _) hB24)) rfl ?_
    rintro _ W25 ⟨rfl, hE26⟩
    exact ⟨told rfl rfl (by rw [hg23, cond_true]), hE26⟩
  · intro W13 hW14
    rintro _ rfl
    intro v27 (hv28 : v27 = bif (!(!(validSet a))) then (.bool (validSet b)) else undef)
    refine gather_nil ?_
    refine opg_f1 rfl rfl (fun hg29 => ?_) (fun h => by rw [h, cond_false])
    obtain rfl : v27 = .bool (validSet b) := by rw [hv28, hg29, cond_true]
    exact op_not rfl rfl ⟨told rfl rfl (by rw [hg29, cond_true]), (Below.refl _ _)⟩
  · intro W13 hW14
    rintro _ rfl
    intro v30 (hv31 : v30 = bif (!(!(validSet a))) then (.bool (!(validSet b))) else undef)
    refine gather_nil ?_
    refine opg_none rfl ?_
    exact op_or rfl rfl rfl (fun h => by rw [hv31, (not_i h), cond_true]) rfl ⟨told rfl rfl rfl, (Below.refl _ _)⟩
  intro W32 hW33
  rintro _ rfl
  refine gather_nil ?_
  refine (then_norm ?_)
  refine wc_cond (b := (!(validSet a)) || (!(validSet b))) rfl (fun hc34 => ?_) (fun hc34 => ?_)
  · have hinv : ¬ (validSet a = true ∧ validSet b = true) := by intro h; rw [h.1, h.2] at hc34; cases hc34
    refine wc_seq ?_
    refine wc_region ?_
    refine wl_op rfl (op_assign rfl rfl ?_)
    refine wl_op rfl (op_assign rfl rfl ?_)
    refine (wl_done (then_norm ?_))
    refine wc_ret ?_
    refine (then_ret ?_)
    have hB35 : Below w.heap.size w W32 := (below_step (Below.refl _ _) hW33)
    refine ⟨[_, _], ⟨rfl, rfl, trivial⟩, ⟨none, 0, 0, ?_, (by rw [overR, if_neg hinv]; exact rd_nil _ _ _), (Nat.le_refl _), hB35⟩⟩
    rw [overE, if_neg hinv]
    rfl
  · have hval : validSet a = true ∧ validSet b = true := by simpa using hc34
    refine wc_skip ?_
    refine (then_norm ?_)
    refine wc_seq ?_
    refine wc_region ?_
    refine wl_op rfl (op_move rfl rfl ?_)
    refine wl_op rfl (op_move rfl rfl ?_)
    refine wl_op rfl (op_call ent54 rfl (over_spec) rfl ?_)
    rintro _ W43 ⟨b136, b237, rfl, hp38, hp39, hp40, hp41, hp42, hE44⟩
    have hB45 : Below w.heap.size w W32 := (below_step (Below.refl _ _) hW33)
    refine wl_op rfl (op_call ent53 rfl (Collect_spec ent77 (over1_seq hE44 (hs.ext (flat_lifts _) hB45) hc (hs2.ext (flat_lifts _) hB45) hc2 hp38 hp39 hp40 hp41 hp42) (lt_cons (blk_lt hp38) (lt_cons (blk_lt hp39) lt_nil)) (by have := overL_len a b; omega) (FT := [b136, b237]) (S := overL a b)) rfl ?_)
    rintro _ W52 ⟨A146, n147, c148, rfl, hp49, hp50, hp51⟩
    refine wl_op rfl (op_assign rfl rfl ?_)
    refine wl_op rfl (op_assign rfl rfl ?_)
    refine (wl_done (then_norm ?_))
    refine WC.sub [(4, .slice A146 n147 c148), (5, .int .i64 0)] ⟨rfl, rfl, trivial⟩ ?_
    refine wc_ret ?_
    have hB54 : Below w.heap.size w W32 := (below_step (Below.refl _ _) hW33)
    have hB55 : Below w.heap.size w W32 := (below_step (Below.refl _ _) hW33)
    have hB56 : Below w.heap.size w W43 := (below_step (below_step (Below.refl _ _) hW33) hE44)
    have hB57 : Below w.heap.size w W52 := (below_but (below_step (below_step (Below.refl _ _) hW33) hE44) hp51 (ge_cons (Nat.le_trans hB55.size hp40) (ge_cons (Nat.le_trans hB54.size hp41) ge_nil)) hB56.size)
    refine ⟨[_, _], ⟨rfl, rfl, trivial⟩, ⟨A146, n147, c148, ?_, (by rw [overR, if_pos hval]; exact hp49), hp50, hB57⟩⟩
    rw [overE, if_pos hval]
    rfl

end Go.Eng

set_option linter.unusedVariables false
set_option maxRecDepth 100000
namespace Go.Eng
open Go.RowKit Go.Shelf Go.Proofs Pol

theorem ent56 : Enters Try.prog 56 := enters_of Try.func56 (by kernel_rfl) rfl

theorem Equal_spec {w : World} {A : Option Addr} {n c : Nat} {a : List Pol} {A2 : Option Addr} {n2 c2 : Nat} {b : List Pol} (hs : RdP w A n a) (hs2 : RdP w A2 n2 b) : Ret Try.prog 56 #[.slice A n c, .slice A2 n2 c2] w (fun v w' => v = .bool (decide (a = b)) ∧ Below w.heap.size w w') := by
  obtain ⟨bs1, os2, hA3, hc4⟩ := hs.flat
  have hln5 := hs.len
  have hbd6 := hs.bd
  have hlen_a := hs.len
  obtain ⟨bs7, os8, hA9, hc10⟩ := hs2.flat
  have hln11 := hs2.len
  have hbd12 := hs2.bd
  have hlen_b := hs2.len
  refine ret_of (args := [.slice A n c, .slice A2 n2 c2]) Try.func56 rfl Try.ntmps56 rfl (rs := [.tmp 4]) rfl ?_
  refine wc_seq ?_
  refine wc_region ?_
  refine wl_op rfl (op_assign rfl rfl ?_)
  refine (wl_done (then_norm ?_))
  refine wc_seq ?_
  refine wc_seq ?_
  refine wc_region ?_
  refine wl_op rfl (op_move rfl rfl ?_)
  refine wl_op rfl (op_len_slice rfl rfl und22 rfl rfl ?_)
  refine wl_op rfl (op_move rfl rfl ?_)
  refine wl_op rfl (op_len_slice rfl rfl und22 rfl rfl ?_)
  refine wl_op rfl (op_neq rfl rfl rfl ?_)
  refine (wl_done (then_norm ?_))
  refine wc_cond (b := !decide (((n : Nat) : Int) = ((n2 : Nat) : Int))) rfl (fun hc13 => ?_) (fun hc13 => ?_)
  · have hc13r := hc13
    have hc13 := of_decide_eq_false (not_t hc13)
    refine wc_seq ?_
    refine wc_region ?_
    refine wl_op rfl (op_assign rfl rfl ?_)
    refine (wl_done (then_norm ?_))
    refine wc_ret ?_
    refine (then_ret ?_)
    refine ⟨[_], ⟨rfl, trivial⟩, ⟨?_, (Below.refl _ _)⟩⟩
    exact congrArg Value.bool (decide_eq_false (fun h => by have := len_iff h; omega)).symm
  · have hc13r := hc13
    have hc13 := of_decide_eq_true (not_f hc13)
    refine wc_skip ?_
    refine (then_norm ?_)
    refine wc_seq ?_
    refine wc_seq ?_
    refine wc_region ?_
    refine wl_op rfl (op_move rfl rfl ?_)
    refine wl_op rfl (op_len_slice rfl rfl und22 rfl rfl ?_)
    refine wl_op rfl (op_move rfl rfl ?_)
    refine (wl_done (then_norm ?_))
    refine WC.sub [(0, .slice A n c), (1, .slice A2 n2 c2), (4, .bool false), (12, .int .i64 ((n : Nat) : Int)), (13, .int .i64 0)] ⟨rfl, rfl, rfl, rfl, rfl, trivial⟩ ?_
    refine wc_block ?_
    refine wc_loop (σ := Nat × World) (fun st_ => [(0, .slice A n c), (1, .slice A2 n2 c2), (4, .bool false), (12, .int .i64 ((n : Nat) : Int)), (13, .int .i64 (st_.1 : Int))]) (fun st_ => st_.2) (fun st_ => (st_.1 ≤ n) ∧ (∀ i, i < st_.1 → a[i]? = b[i]?) ∧ (Below w.heap.size w st_.2)) (fun st_ => n - st_.1) (0, w) ⟨(by first | omega | (dsimp only; omega)), (fun i hi => absurd hi (by omega)), (Below.refl _ _)⟩ ⟨rfl, rfl, rfl, rfl, rfl, trivial⟩ rfl ?_
    rintro ⟨k, W14⟩ ⟨hk, hall, hE15⟩
    dsimp only at hk hall hE15
    refine wc_at [(0, .slice A n c), (1, .slice A2 n2 c2), (4, .bool false), (12, .int .i64 ((n : Nat) : Int)), (13, .int .i64 (k : Int))] W14 ⟨rfl, rfl, rfl, rfl, rfl, trivial⟩ rfl ?_
    refine wc_seq ?_
    refine wc_region ?_
    refine wl_op rfl (op_lss rfl rfl rfl ?_)
    refine (wl_done (then_norm ?_))
    refine wc_seq ?_
    refine wc_cond (b := decide ((k : Int) < ((n : Nat) : Int))) rfl (fun hc16 => ?_) (fun hc16 => ?_)
    · have hc16r := hc16
      have hc16 := of_decide_eq_true hc16
      refine wc_skip ?_
      refine (then_norm ?_)
      refine wc_seq ?_
      refine wc_block ?_
      refine wc_seq ?_
      refine wc_region ?_
      refine wl_op rfl (op_move rfl rfl ?_)
      refine wl_op rfl (op_assign rfl rfl ?_)
      refine (wl_done (then_norm ?_))
      refine wc_seq ?_
      obtain ⟨x_a_k, hx_a_k⟩ : ∃ x, a[k]? = some x := ⟨_, List.getElem?_eq_getElem (by have := hs.len; omega)⟩
      obtain ⟨x_b_k, hx_b_k⟩ : ∃ x, b[k]? = some x := ⟨_, List.getElem?_eq_getElem (by have := hs2.len; omega)⟩
      refine wc_draw mixed [(0, .slice A n c), (1, .slice A2 n2 c2), (4, .bool false), (12, .int .i64 ((n : Nat) : Int)), (13, .int .i64 (k : Int)), (14, .bool (decide ((k : Int) < ((n : Nat) : Int)))), (15, .int .i64 (k : Int)), (5, .int .i64 (k : Int))] ⟨rfl, rfl, rfl, rfl, rfl, rfl, rfl, rfl, trivial⟩ [fun v _ => v = .slice A n c, fun v _ => v = .int .i64 (k : Int), fun v _ => v = .pointer (some ⟨bs1, os2 + k * 2, none⟩), fun v _ => v = .agg #[.int .i64 x_a_k.kind, .int .i64 x_a_k.val], fun v _ => v = .slice A2 n2 c2, fun v _ => v = .int .i64 (k : Int), fun v _ => v = .pointer (some ⟨bs7, os8 + k * 2, none⟩), fun v _ => v = .agg #[.int .i64 x_b_k.kind, .int .i64 x_b_k.val], fun v _ => v = .bool (!((decide (x_a_k.kind = x_b_k.kind)) && (decide (x_a_k.val = x_b_k.val))))] [[], [], [0, 1], [2], [], [], [4, 5], [6], [3, 7]] [0, 1, 2, 3, 4, 5, 6, 7, 8] rfl rfl rfl ⟨fun _ _ _ _ h => h, fun _ _ _ _ h => h, fun _ _ _ _ h => h, fun _ _ _ _ h => h, fun _ _ _ _ h => h, fun _ _ _ _ h => h, fun _ _ _ _ h => h, fun _ _ _ _ h => h, fun _ _ _ _ h => h, trivial⟩ ⟨?_, ?_, ?_, ?_, ?_, ?_, ?_, ?_, ?_, trivial⟩ ?_
      · intro W17 hW18
        refine gather_nil ?_
        refine opg_none rfl ?_
        exact op_move rfl rfl ⟨told rfl rfl rfl, (Below.refl _ _)⟩
      · intro W17 hW18
        refine gather_nil ?_
        refine opg_none rfl ?_
        exact op_move rfl rfl ⟨told rfl rfl rfl, (Below.refl _ _)⟩
      · intro W17 hW18
        rintro _ rfl
        rintro _ rfl
        refine gather_nil ?_
        refine opg_none rfl ?_
        exact op_indexAddr (j := k) rfl rfl und22 sz46 (hA3 (by omega)) rfl (by omega) rfl ⟨told rfl rfl rfl, (Below.refl _ _)⟩
      · intro W17 hW18
        rintro _ rfl
        refine gather_nil ?_
        refine opg_none rfl ?_
        have hB21 : Below w.heap.size w W17 := (below_step (below_step (Below.refl _ _) hE15) hW18)
        exact op_loadN (vs := [.int .i64 x_a_k.kind, .int .i64 x_a_k.val]) rfl agg46 sz46 rfl ((hc4 k x_a_k hx_a_k).ext hB21) rfl ⟨told rfl rfl rfl, (Below.refl _ _)⟩
      · intro W17 hW18
        refine gather_nil ?_
        refine opg_none rfl ?_
        exact op_move rfl rfl ⟨told rfl rfl rfl, (Below.refl _ _)⟩
      · intro W17 hW18
        refine gather_nil ?_
        refine opg_none rfl ?_
        exact op_move rfl rfl ⟨told rfl rfl rfl, (Below.refl _ _)⟩
      · intro W17 hW18
        rintro _ rfl
        rintro _ rfl
        refine gather_nil ?_
        refine opg_none rfl ?_
        exact op_indexAddr (j := k) rfl rfl und22 sz46 (hA9 (by omega)) rfl (by omega) rfl ⟨told rfl rfl rfl, (Below.refl _ _)⟩
      · intro W17 hW18
        rintro _ rfl
        refine gather_nil ?_
        refine opg_none rfl ?_
        have hB22 : Below w.heap.size w W17 := (below_step (below_step (Below.refl _ _) hE15) hW18)
        exact op_loadN (vs := [.int .i64 x_b_k.kind, .int .i64 x_b_k.val]) rfl agg46 sz46 rfl ((hc10 k x_b_k hx_b_k).ext hB22) rfl ⟨told rfl rfl rfl, (Below.refl _ _)⟩
      · intro W17 hW18
        rintro _ rfl
        rintro _ rfl
        refine gather_nil ?_
        refine opg_none rfl ?_
        exact op_neqA (X := [.int .i64 x_a_k.kind, .int .i64 x_a_k.val]) (Y := [.int .i64 x_b_k.kind, .int .i64 x_b_k.val]) (b := (decide (x_a_k.kind = x_b_k.kind)) && (decide (x_a_k.val = x_b_k.val))) rfl rfl eq46 rfl rfl ⟨told rfl rfl rfl, (Below.refl _ _)⟩
      intro W23 hW24
      rintro _ rfl
      rintro _ rfl
      rintro _ rfl
      rintro _ rfl
      rintro _ rfl
      rintro _ rfl
      rintro _ rfl
      rintro _ rfl
      rintro _ rfl
      refine gather_nil ?_
      refine (then_norm ?_)
      refine wc_cond (b := !((decide (x_a_k.kind = x_b_k.kind)) && (decide (x_a_k.val = x_b_k.val)))) rfl (fun hc25 => ?_) (fun hc25 => ?_)
      · refine wc_seq ?_
        refine wc_region ?_
        refine wl_op rfl (op_assign rfl rfl ?_)
        refine (wl_done (then_norm ?_))
        refine wc_ret ?_
        refine (block_ret (then_ret (then_ret (block_ret (then_ret ?_)))))
        have hB26 : Below w.heap.size w W23 := (below_step (below_step (Below.refl _ _) hE15) hW24)
        refine ⟨[_], ⟨rfl, trivial⟩, ⟨?_, hB26⟩⟩
        exact congrArg Value.bool (decide_eq_false (getE_ne hx_a_k hx_b_k (pol_ne (not_t hc25)))).symm
      · refine wc_skip ?_
        refine (block_norm (then_norm ?_))
        refine wc_region ?_
        refine wl_op rfl (op_add (r := ((k + 1 : Nat) : Int)) rfl rfl (by omega) (by omega) rfl ?_)
        refine wl_op rfl (op_move rfl rfl ?_)
        refine (wl_done (then_norm ?_))
        have hB27 : Below w.heap.size w W23 := (below_step (below_step (Below.refl _ _) hE15) hW24)
        refine ⟨((k + 1), W23), ⟨(by first | omega | (dsimp only; omega)), (all_succ_eq hall hx_a_k hx_b_k (pol_ext (not_f hc25))), hB27⟩, ?_, ⟨rfl, rfl, rfl, rfl, rfl, trivial⟩, rfl⟩
        · dsimp only; omega
    · have hc16r := hc16
      have hc16 := of_decide_eq_false hc16
      refine wc_exit ?_
      refine (then_exit (then_exit (block_here (then_norm ?_))))
      refine wc_seq ?_
      refine wc_region ?_
      refine wl_op rfl (op_assign rfl rfl ?_)
      refine (wl_done (then_norm ?_))
      refine wc_ret ?_
      have hB28 : Below w.heap.size w W14 := (below_step (Below.refl _ _) hE15)
      refine ⟨[_], ⟨rfl, trivial⟩, ⟨?_, hB28⟩⟩
      exact congrArg Value.bool (decide_eq_true (eq_of_all (by omega) (fun i hi => hall i (by omega)))).symm

def sameR (a b : List Pol) : Bool := if validSet a = true ∧ validSet b = true then decide (chosenL a keepPlain = chosenL b keepPlain) else false
theorem chosenE_ne {s : List Pol} (h : ¬ chosenE s = 0) : validSet s = false := by
  rw [Bool.eq_false_iff]; intro h'; exact h (chosenE_0.2 h')
theorem same_bad {a b : List Pol} (h : ((!decide (chosenE a = 0)) || (!decide (chosenE b = 0))) = true) : ¬ (validSet a = true ∧ validSet b = true) := by
  rintro ⟨h1, h2⟩; rw [chosenE_0.2 h1, chosenE_0.2 h2] at h; cases h
theorem same_good {a b : List Pol} (h : ((!decide (chosenE a = 0)) || (!decide (chosenE b = 0))) = false) : validSet a = true ∧ validSet b = true := by
  rw [Bool.or_eq_false_iff, Bool.not_eq_false', Bool.not_eq_false', decide_eq_true_eq, decide_eq_true_eq] at h
  exact ⟨chosenE_0.1 h.1, chosenE_0.1 h.2⟩

theorem Same_spec {w : World} {A : Option Addr} {n c : Nat} {a : List Pol} {A2 : Option Addr} {n2 c2 : Nat} {b : List Pol} (hs : RdP w A n a) (hs2 : RdP w A2 n2 b) (hn : n ≤ 1000) (hn2 : n2 ≤ 1000) : Ret Try.prog 19 #[.slice A n c, .slice A2 n2 c2] w (fun v w' => v = .tuple #[.bool (sameR a b), .int .i64 (overE a b)] ∧ Below w.heap.size w w') := by
  obtain ⟨bs1, os2, hA3, hc4⟩ := hs.flat
  have hln5 := hs.len
  have hbd6 := hs.bd
  have hlen_a := hs.len
  obtain ⟨bs7, os8, hA9, hc10⟩ := hs2.flat
  have hln11 := hs2.len
  have hbd12 := hs2.bd
  have hlen_b := hs2.len
  refine ret_of (args := [.slice A n c, .slice A2 n2 c2]) Try.func19 rfl Try.ntmps19 rfl (rs := [.tmp 4, .tmp 5]) rfl ?_
  refine wc_seq ?_
  refine wc_region ?_
  refine wl_op rfl (op_assign rfl rfl ?_)
  refine wl_op rfl (op_assign rfl rfl ?_)
  refine (wl_done (then_norm ?_))
  refine wc_seq ?_
  refine wc_region ?_
  refine wl_op rfl (op_move rfl rfl ?_)
  refine wl_op rfl (op_call ent21 rfl (Plain_spec hs (by omega)) rfl ?_)
  rintro _ W17 ⟨A113, n114, c115, rfl, hp16, hE18⟩
  refine wl_op rfl (op_move rfl rfl ?_)
  refine wl_op rfl (op_extract (v := .slice A113 n114 c115) rfl rfl rfl ?_)
  refine wl_op rfl (op_extract (v := .int .i64 (chosenE a)) rfl rfl rfl ?_)
  refine wl_op rfl (op_assign rfl rfl ?_)
  refine wl_op rfl (op_assign rfl rfl ?_)
  refine (wl_done (then_norm ?_))
  refine WC.sub [(1, .slice A2 n2 c2), (4, .bool false), (5, .int .i64 0), (6, .slice A113 n114 c115), (7, .int .i64 (chosenE a))] ⟨rfl, rfl, rfl, rfl, rfl, trivial⟩ ?_
  refine wc_seq ?_
  refine wc_region ?_
  refine wl_op rfl (op_move rfl rfl ?_)
  have hB19 : Below w.heap.size w W17 := (below_step (Below.refl _ _) hE18)
  refine wl_op rfl (op_call ent21 rfl (Plain_spec (hs2.ext (flat_lifts _) hB19) (by omega)) rfl ?_)
  rintro _ W24 ⟨A120, n121, c122, rfl, hp23, hE25⟩
  refine wl_op rfl (op_move rfl rfl ?_)
  refine wl_op rfl (op_extract (v := .slice A120 n121 c122) rfl rfl rfl ?_)
  refine wl_op rfl (op_extract (v := .int .i64 (chosenE b)) rfl rfl rfl ?_)
  refine wl_op rfl (op_assign rfl rfl ?_)
  refine wl_op rfl (op_assign rfl rfl ?_)
  refine (wl_done (then_norm ?_))
  refine WC.sub [(4, .bool false), (5, .int .i64 0), (6, .slice A113 n114 c115), (7, .int .i64 (chosenE a)), (8, .slice A120 n121 c122), (9, .int .i64 (chosenE b))] ⟨rfl, rfl, rfl, rfl, rfl, rfl, trivial⟩ ?_
  refine wc_seq ?_
  refine wc_seq ?_
  refine wc_text [(4, .bool false), (5, .int .i64 0), (6, .slice A113 n114 c115), (7, .int .i64 (chosenE a)), (8, .slice A120 n121 c122), (9, .int .i64 (chosenE b))] ⟨rfl, rfl, rfl, rfl, rfl, rfl, trivial⟩ [fun v _ => v = .int .i64 (chosenE a), fun v _ => v = .bool (!decide (chosenE a = 0)), fun v _ => v = .bool (!decide (chosenE a = 0)), fun v _ => v = (bif (!(!decide (chosenE a = 0))) then (.int .i64 (chosenE b)) else undef), fun v _ => v = (bif (!(!decide (chosenE a = 0))) then (.bool (!decide (chosenE b = 0))) else undef), fun v _ => v = .bool ((!decide (chosenE a = 0)) || (!decide (chosenE b = 0)))] [[], [0], [1], [2], [2, 3], [2, 4]] [5] rfl rfl rfl ⟨fun _ _ _ _ h => h, fun _ _ _ _ h => h, fun _ _ _ _ h => h, fun _ _ _ _ h => h, fun _ _ _ _ h => h, fun _ _ _ _ h => h, trivial⟩ ⟨?_, ?_, ?_, ?_, ?_, ?_, trivial⟩ ?_
  · intro W26 hW27
    refine gather_nil ?_
    refine opg_none rfl ?_
    exact op_move rfl rfl ⟨told rfl rfl rfl, (Below.refl _ _)⟩
  · intro W26 hW27
    rintro _ rfl
    refine gather_nil ?_
    refine opg_none rfl ?_
    exact op_neq rfl rfl rfl ⟨told rfl rfl rfl, (Below.refl _ _)⟩
  · intro W26 hW27
    rintro _ rfl
    refine gather_nil ?_
    refine opg_none rfl ?_
    exact op_move rfl rfl ⟨told rfl rfl rfl, (Below.refl _ _)⟩
  · intro W26 hW27
    rintro _ rfl
    refine gather_nil ?_
    refine opg_f1 rfl rfl (fun hg28 => ?_) (fun h => by rw [h, cond_false])
    exact op_move rfl rfl ⟨told rfl rfl (by rw [hg28, cond_true]), (Below.refl _ _)⟩
  · intro W26 hW27
    rintro _ rfl
    intro v29 (hv30 : v29 = bif (!(!decide (chosenE a = 0))) then (.int .i64 (chosenE b)) else undef)
    refine gather_nil ?_
    refine opg_f1 rfl rfl (fun hg31 => ?_) (fun h => by rw [h, cond_false])
    obtain rfl : v29 = .int .i64 (chosenE b) := by rw [hv30, hg31, cond_true]
    exact op_neq rfl rfl rfl ⟨told rfl rfl (by rw [hg31, cond_true]), (Below.refl _ _)⟩
  · intro W26 hW27
    rintro _ rfl
    intro v32 (hv33 : v32 = bif (!(!decide (chosenE a = 0))) then (.bool (!decide (chosenE b = 0))) else undef)
    refine gather_nil ?_
    refine opg_none rfl ?_
    exact op_or rfl rfl rfl (fun h => by rw [hv33, (not_i h), cond_true]) rfl ⟨told rfl rfl rfl, (Below.refl _ _)⟩
  intro W34 hW35
  rintro _ rfl
  refine gather_nil ?_
  refine (then_norm ?_)
  refine wc_cond (b := (!decide (chosenE a = 0)) || (!decide (chosenE b = 0))) rfl (fun hc36 => ?_) (fun hc36 => ?_)
  · have hinv := same_bad hc36
    refine wc_seq ?_
    refine wc_region ?_
    refine wl_op rfl (op_assign rfl rfl ?_)
    refine wl_op rfl (op_assign rfl rfl ?_)
    refine (wl_done (then_norm ?_))
    refine wc_ret ?_
    refine (then_ret ?_)
    have hB37 : Below w.heap.size w W34 := (below_step (below_step hB19 hE25) hW35)
    refine ⟨[_, _], ⟨rfl, rfl, trivial⟩, ⟨?_, hB37⟩⟩
    rw [sameR, overE, if_neg hinv, if_neg hinv]
    rfl
  · have hval := same_good hc36
    refine wc_skip ?_
    refine (then_norm ?_)
    refine wc_seq ?_
    refine wc_region ?_
    refine wl_op rfl (op_move rfl rfl ?_)
    refine wl_op rfl (op_move rfl rfl ?_)
    have hB38 : Below W17.heap.size W17 W34 := (below_step (below_step (Below.refl _ _) hE25) hW35)
    have hB39 : Below W24.heap.size W24 W34 := (below_step (Below.refl _ _) hW35)
    refine wl_op rfl (op_call ent56 rfl (Equal_spec (hp16.ext (flat_lifts _) hB38) (hp23.ext (flat_lifts _) hB39)) rfl ?_)
    rintro _ W40 ⟨rfl, hE41⟩
    refine wl_op rfl (op_assign rfl rfl ?_)
    refine wl_op rfl (op_assign rfl rfl ?_)
    refine (wl_done (then_norm ?_))
    refine WC.sub [(4, .bool (decide ((chosenL a keepPlain) = (chosenL b keepPlain)))), (5, .int .i64 0)] ⟨rfl, rfl, trivial⟩ ?_
    refine wc_ret ?_
    have hB42 : Below w.heap.size w W40 := (below_step (below_step (below_step hB19 hE25) hW35) hE41)
    refine ⟨[_, _], ⟨rfl, rfl, trivial⟩, ⟨?_, hB42⟩⟩
    rw [sameR, overE, if_pos hval, if_pos hval]
    rfl

theorem overL_nil_r (xs : List Pol) : overL xs [] = xs := by
  induction xs with
  | nil => exact overL_nil []
  | cons x xs ih => rw [overL, ih]
def RLev (w : World) (cs : List Value) (s : List Pol) : Prop := ∃ A n c, cs = [.slice A n c] ∧ RdP w A n s ∧ n ≤ c ∧ n ≤ 200
theorem rlev_lifts : Lifts RLev := fun w w' cs x hb ⟨A, n, c, h1, h2, h3⟩ => ⟨A, n, c, h1, h2.ext (flat_lifts _) hb, h3⟩
abbrev RdL (w : World) (A : Option Addr) (n : Nat) (xs : List (List Pol)) : Prop := Rd RLev 1 w A n xs
def effL (l : List (List Pol)) : List Pol := l.foldl overL []
def allV (l : List (List Pol)) : Bool := l.all validSet
def effR (l : List (List Pol)) : List Pol := if allV l = true then effL l else []
def effE (l : List (List Pol)) : Int := if allV l = true then 0 else 1

end Go.Eng

set_option linter.unusedVariables false
set_option maxRecDepth 100000
namespace Go.Eng
open Go.RowKit Go.Shelf Go.Proofs Pol

theorem ent15 : Enters Try.prog 15 := enters_of Try.func15 (by kernel_rfl) rfl

abbrev srt (s : List Pol) : Prop := s.Pairwise (fun x y => x.kind < y.kind)
theorem srt_cons {x : Pol} {xs : List Pol} : srt (x :: xs) ↔ (∀ y, y ∈ xs → x.kind < y.kind) ∧ srt xs := List.pairwise_cons
theorem srt_of_asc {s : List Pol} (h : Asc s) : srt s := by
  rw [srt, List.pairwise_iff_getElem]
  intro i j hi hj hij
  exact h.up i j _ _ hij (List.getElem?_eq_getElem hi) (List.getElem?_eq_getElem hj)
theorem asc_of_srt {s : List Pol} (h : srt s) (hv : ∀ p, p ∈ s → validB p = true) : Asc s := by
  rw [srt, List.pairwise_iff_getElem] at h
  refine ⟨fun i x hx => (valid_kind (hv x (List.mem_of_getElem? hx))), fun i j x y hij hx hy => ?_⟩
  obtain ⟨hi, rfl⟩ := List.getElem?_eq_some_iff.1 hx
  obtain ⟨hj, rfl⟩ := List.getElem?_eq_some_iff.1 hy
  exact h i j hi hj hij
theorem valid_iff {s : List Pol} : validSet s = true ↔ srt s ∧ ∀ p, p ∈ s → validB p = true :=
  ⟨fun h => ⟨srt_of_asc (valid_asc h), fun p hp => mem_valid h hp⟩, fun ⟨h1, h2⟩ => valid_of (asc_of_srt h1 h2) h2⟩
theorem overL_mem {a b : List Pol} : ∀ z, z ∈ overL a b → z ∈ a ∨ z ∈ b := by
  fun_induction overL a b with
  | case1 ys => intro z h; exact .inr h
  | case2 x xs ih =>
    intro z h
    rcases List.mem_cons.1 h with rfl | h
    · exact .inl (by simp)
    · exact (ih z h).imp (fun h => by simp [h]) id
  | case3 x xs y ys h1 ih =>
    intro z h
    rcases List.mem_cons.1 h with rfl | h
    · exact .inl (by simp)
    · exact (ih z h).imp (fun h => by simp [h]) id
  | case4 x xs y ys h1 h2 ih =>
    intro z h
    rcases List.mem_cons.1 h with rfl | h
    · exact .inr (by simp)
    · exact (ih z h).imp (fun h => by simp [h]) (fun h => by simp [h])
  | case5 x xs y ys h1 h2 ih =>
    intro z h
    rcases List.mem_cons.1 h with rfl | h
    · exact .inr (by simp)
    · exact (ih z h).imp id (fun h => by simp [h])
theorem overL_srt {a b : List Pol} : srt a → srt b → srt (overL a b) := by
  fun_induction overL a b with
  | case1 ys => intro _ h; exact h
  | case2 x xs ih =>
    intro h1 h2
    rw [srt_cons] at h1
    rw [srt_cons]
    refine ⟨fun z hz => ?_, ih h1.2 h2⟩
    rcases overL_mem z hz with h | h
    · exact h1.1 z h
    · cases h
  | case3 x xs y ys h3 ih =>
    intro h1 h2
    have h2' := h2
    rw [srt_cons] at h1 h2
    rw [srt_cons]
    refine ⟨fun z hz => ?_, ih h1.2 h2'⟩
    rcases overL_mem z hz with h | h
    · exact h1.1 z h
    · rcases List.mem_cons.1 h with rfl | h
      · exact h3
      · have := h2.1 z h; omega
  | case4 x xs y ys h3 h4 ih =>
    intro h1 h2
    rw [srt_cons] at h1 h2
    rw [srt_cons]
    refine ⟨fun z hz => ?_, ih h1.2 h2.2⟩
    rcases overL_mem z hz with h | h
    · have := h1.1 z h; omega
    · exact h2.1 z h
  | case5 x xs y ys h3 h4 ih =>
    intro h1 h2
    have h1' := h1
    rw [srt_cons] at h1 h2
    rw [srt_cons]
    refine ⟨fun z hz => ?_, ih h1' h2.2⟩
    rcases overL_mem z hz with h | h
    · rcases List.mem_cons.1 h with rfl | h
      · omega
      · have := h1.1 z h; omega
    · exact h2.1 z h
theorem overL_valid {a b : List Pol} (ha : validSet a = true) (hb : validSet b = true) : validSet (overL a b) = true := by
  rw [valid_iff] at *
  exact ⟨overL_srt ha.1 hb.1, fun p hp => (overL_mem p hp).elim (ha.2 p) (hb.2 p)⟩
theorem srt_len {s : List Pol} : ∀ {lo : Int}, srt s → (∀ p, p ∈ s → lo ≤ p.kind ∧ p.kind ≤ 13) → lo ≤ 14 → (s.length : Int) ≤ 14 - lo := by
  induction s with
  | nil => intro lo _ _ h; simp; omega
  | cons x xs ih =>
    intro lo h1 h2 h3
    rw [srt_cons] at h1
    have hx := h2 x (by simp)
    have := ih (lo := x.kind + 1) h1.2 (fun p hp => ⟨by have := h1.1 p hp; omega, (h2 p (by simp [hp])).2⟩) (by omega)
    simp only [List.length_cons]; omega
theorem valid_len {s : List Pol} (h : validSet s = true) : s.length ≤ 13 := by
  rw [valid_iff] at h
  have := srt_len (lo := 1) h.1 (fun p hp => valid_kind (h.2 p hp)) (by decide)
  omega
theorem effL_succ {l : List (List Pol)} {k : Nat} {s : List Pol} (h : l[k]? = some s) : effL (l.take (k + 1)) = overL (effL (l.take k)) s := by
  obtain ⟨hk, rfl⟩ := List.getElem?_eq_some_iff.1 h
  rw [List.take_succ_eq_append_getElem hk, effL, List.foldl_append]; rfl
theorem valid_nil : validSet [] = true := rfl
theorem allV_bad {l : List (List Pol)} {k : Nat} {s : List Pol} (h : l[k]? = some s) (hs : validSet s = false) : allV l = false := all_no (f := validSet) h hs
theorem over_step {out s : List Pol} (h : validSet out = true) (hs : validSet s = true) : overR out s = overL out s ∧ overE out s = 0 ∧ validSet (overL out s) = true := ⟨if_pos ⟨h, hs⟩, if_pos ⟨h, hs⟩, overL_valid h hs⟩
theorem overE_0 {a b : List Pol} : overE a b = 0 ↔ validSet a = true ∧ validSet b = true := by
  unfold overE; split <;> simp_all
theorem overE_1 {a b : List Pol} (h : ¬ overE a b = 0) : overE a b = 1 ∧ ¬ (validSet a = true ∧ validSet b = true) := by
  unfold overE at *; split at h <;> simp_all

theorem Effective_spec {w : World} {A : Option Addr} {n c : Nat} {l : List (List Pol)} (hs : RdL w A n l) (hn : n ≤ 100) : Ret Try.prog 17 #[.slice A n c] w (fun v w' => ∃ (A1 : Option Addr) (n1 c1 : Nat), v = .tuple #[.slice A1 n1 c1, .int .i64 (effE l)] ∧ RdP w' A1 n1 (effR l) ∧ n1 ≤ c1 ∧ Below w.heap.size w w') := by
  obtain ⟨bs1, os2, hA3, hc4⟩ := hs.rows
  have hln5 := hs.len
  have hbd6 := hs.bd
  have hlen_l := hs.len
  refine ret_of (args := [.slice A n c]) Try.func17 rfl Try.ntmps17 rfl (rs := [.tmp 2, .tmp 3]) rfl ?_
  refine wc_seq ?_
  refine wc_region ?_
  refine wl_op rfl (op_assign rfl rfl ?_)
  refine wl_op rfl (op_assign rfl rfl ?_)
  refine (wl_done (then_norm ?_))
  refine wc_seq ?_
  refine wc_seq ?_
  refine wc_region ?_
  refine wl_op rfl (op_move rfl rfl ?_)
  refine wl_op rfl (op_len_slice rfl rfl und33 rfl rfl ?_)
  refine wl_op rfl (op_gtr rfl rfl rfl ?_)
  refine (wl_done (then_norm ?_))
  refine wc_cond (b := decide (100 < ((n : Nat) : Int))) rfl (fun hc7 => ?_) (fun hc7 => ?_)
  · have hc7r := hc7
    have hc7 := of_decide_eq_true hc7
    omega
  · have hc7r := hc7
    have hc7 := of_decide_eq_false hc7
    refine wc_skip ?_
    refine (then_norm ?_)
    refine wc_seq ?_
    refine wc_region ?_
    refine wl_op rfl (op_assign rfl rfl ?_)
    refine (wl_done (then_norm ?_))
    refine wc_seq ?_
    refine wc_seq ?_
    refine wc_region ?_
    refine wl_op rfl (op_move rfl rfl ?_)
    refine wl_op rfl (op_len_slice rfl rfl und33 rfl rfl ?_)
    refine wl_op rfl (op_move rfl rfl ?_)
    refine (wl_done (then_norm ?_))
    refine wc_block ?_
    refine wc_loop (σ := Nat × (Option Addr) × Nat × Nat × World) (fun st_ => [(2, .slice none 0 0), (3, .int .i64 0), (4, .slice st_.2.1 st_.2.2.1 st_.2.2.2.1), (12, .slice A n c), (13, .int .i64 ((n : Nat) : Int)), (14, .int .i64 (st_.1 : Int))]) (fun st_ => st_.2.2.2.2) (fun st_ => (st_.1 ≤ n) ∧ (RdP st_.2.2.2.2 st_.2.1 st_.2.2.1 (effL (l.take st_.1))) ∧ (st_.2.2.1 ≤ st_.2.2.2.1) ∧ (validSet (effL (l.take st_.1)) = true) ∧ (∀ (i : Nat) (x : List Pol), i < st_.1 → l[i]? = some x → validSet x = true) ∧ (Below w.heap.size w st_.2.2.2.2)) (fun st_ => n - st_.1) (0, none, 0, 0, w) ⟨(by first | omega | (dsimp only; omega)), (rd_nil _ _ _), (Nat.le_refl _), valid_nil, (fun i x hi => absurd hi (by omega)), (Below.refl _ _)⟩ ⟨rfl, rfl, rfl, rfl, rfl, rfl, trivial⟩ rfl ?_
    rintro ⟨k, A4, n4, c4, W8⟩ ⟨hk, hout, hoc, hov, hall, hE9⟩
    dsimp only at hk hout hoc hov hall hE9
    refine wc_at [(2, .slice none 0 0), (3, .int .i64 0), (4, .slice A4 n4 c4), (12, .slice A n c), (13, .int .i64 ((n : Nat) : Int)), (14, .int .i64 (k : Int))] W8 ⟨rfl, rfl, rfl, rfl, rfl, rfl, trivial⟩ rfl ?_
    have hol := hout.len
    have hovl := valid_len hov
    refine wc_seq ?_
    refine wc_region ?_
    refine wl_op rfl (op_lss rfl rfl rfl ?_)
    refine (wl_done (then_norm ?_))
    refine wc_seq ?_
    refine wc_cond (b := decide ((k : Int) < ((n : Nat) : Int))) rfl (fun hc10 => ?_) (fun hc10 => ?_)
    · have hc10r := hc10
      have hc10 := of_decide_eq_true hc10
      refine wc_skip ?_
      refine (then_norm ?_)
      refine wc_seq ?_
      refine wc_block ?_
      refine wc_seq ?_
      refine wc_region ?_
      obtain ⟨x_l_k, hx_l_k⟩ : ∃ x, l[k]? = some x := ⟨_, List.getElem?_eq_getElem (by have := hs.len; omega)⟩
      obtain ⟨cs11, hcl12, hR13, hC14⟩ := hc4 k x_l_k hx_l_k
      obtain ⟨A15, n16, c17, rfl, hr18, hnc19, hn220⟩ := hR13
      refine wl_op rfl (op_indexAddr (j := k) rfl rfl und33 sz22 (hA3 (by omega)) rfl (by omega) rfl ?_)
      have hB21 : Below w.heap.size w W8 := (below_step (Below.refl _ _) hE9)
      refine wl_op rfl (op_load1 (v := .slice A15 n16 c17) rfl agg22 ((hC14.ext hB21).at (i := 0) rfl) rfl ?_)
      refine wl_op rfl (op_assign rfl rfl ?_)
      refine (wl_done (then_norm ?_))
      refine wc_seq ?_
      refine wc_region ?_
      refine wl_op rfl (op_move rfl rfl ?_)
      refine wl_op rfl (op_move rfl rfl ?_)
      refine wl_op rfl (op_call ent15 rfl (Over_spec hout (hr18.ext (flat_lifts _) hB21) (by omega) (by omega) (by omega) (by omega)) rfl ?_)
      rintro _ W27 ⟨A122, n123, c124, rfl, hp25, hp26, hE28⟩
      refine wl_op rfl (op_move rfl rfl ?_)
      refine wl_op rfl (op_extract (v := .slice A122 n123 c124) rfl rfl rfl ?_)
      refine wl_op rfl (op_extract (v := .int .i64 (overE (effL (l.take k)) x_l_k)) rfl rfl rfl ?_)
      refine wl_op rfl (op_assign rfl rfl ?_)
      refine wl_op rfl (op_assign rfl rfl ?_)
      refine (wl_done (then_norm ?_))
      refine wc_seq ?_
      refine wc_seq ?_
      refine wc_region ?_
      refine wl_op rfl (op_move rfl rfl ?_)
      refine wl_op rfl (op_neq rfl rfl rfl ?_)
      refine (wl_done (then_norm ?_))
      refine wc_cond (b := !decide (overE (effL (l.take k)) x_l_k = 0)) rfl (fun hc29 => ?_) (fun hc29 => ?_)
      · have hc29r := hc29
        have hc29 := of_decide_eq_false (not_t hc29)
        have hbad := overE_1 hc29
        refine wc_seq ?_
        refine wc_region ?_
        refine wl_op rfl (op_move rfl rfl ?_)
        refine wl_op rfl (op_assign rfl rfl ?_)
        refine wl_op rfl (op_assign rfl rfl ?_)
        refine (wl_done (then_norm ?_))
        refine wc_ret ?_
        refine (then_ret (block_ret (then_ret (then_ret (block_ret (then_ret ?_))))))
        have hB30 : Below w.heap.size w W27 := (below_step hB21 hE28)
        have hxv : validSet x_l_k = false := by rw [Bool.eq_false_iff]; intro h; exact hbad.2 ⟨hov, h⟩
        have hav := allV_bad hx_l_k hxv
        refine ⟨[_, _], ⟨rfl, rfl, trivial⟩, ⟨none, 0, 0, ?_, (by rw [effR, if_neg (by rw [hav]; decide)]; exact rd_nil _ _ _), (Nat.le_refl _), hB30⟩⟩
        rw [effE, if_neg (by rw [hav]; decide), hbad.1]
        rfl
      · have hc29r := hc29
        have hc29 := of_decide_eq_true (not_f hc29)
        have hvx := (overE_0.1 hc29).2
        have hst := over_step hov hvx
        rw [hst.1] at hp25
        refine wc_skip ?_
        refine (then_norm ?_)
        refine wc_region ?_
        refine wl_op rfl (op_move rfl rfl ?_)
        refine wl_op rfl (op_assign rfl rfl ?_)
        refine (wl_done (block_norm (then_norm ?_)))
        refine wc_region ?_
        refine wl_op rfl (op_add (r := ((k + 1 : Nat) : Int)) rfl rfl (by omega) (by omega) rfl ?_)
        refine wl_op rfl (op_move rfl rfl ?_)
        refine (wl_done (then_norm ?_))
        have hB31 : Below w.heap.size w W27 := (below_step hB21 hE28)
        refine ⟨((k + 1), A122, n123, c124, W27), ⟨(by first | omega | (dsimp only; omega)), (by dsimp only; rw [effL_succ hx_l_k]; exact hp25), (by first | omega | (dsimp only; omega)), (by dsimp only; rw [effL_succ hx_l_k]; exact hst.2.2), (fun i x hi hx => by rcases Nat.lt_or_ge i k with h | h; exact hall i x h hx; have e : i = k := (by dsimp only at hi; omega); subst e; rw [hx_l_k] at hx; cases hx; exact hvx), hB31⟩, ?_, ⟨rfl, rfl, rfl, rfl, rfl, rfl, trivial⟩, rfl⟩
        · dsimp only; omega
    · have hc10r := hc10
      have hc10 := of_decide_eq_false hc10
      refine wc_exit ?_
      refine (then_exit (then_exit (block_here (then_norm ?_))))
      refine wc_seq ?_
      refine wc_region ?_
      refine wl_op rfl (op_move rfl rfl ?_)
      refine wl_op rfl (op_assign rfl rfl ?_)
      refine wl_op rfl (op_assign rfl rfl ?_)
      refine (wl_done (then_norm ?_))
      refine WC.sub [(2, .slice A4 n4 c4), (3, .int .i64 0)] ⟨rfl, rfl, trivial⟩ ?_
      refine wc_ret ?_
      have hB32 : Below w.heap.size w W8 := (below_step (Below.refl _ _) hE9)
      have hkn : l.take k = l := List.take_of_length_le (by omega)
      have hav : allV l = true := all_yes (f := validSet) fun i x hi => hall i x (by omega)
      refine ⟨[_, _], ⟨rfl, rfl, trivial⟩, ⟨A4, n4, c4, ?_, (by rw [effR, if_pos hav]; have h := hout; rw [hkn] at h; exact h), hoc, hB32⟩⟩
      rw [effE, if_pos hav]
      rfl

end Go.Eng
