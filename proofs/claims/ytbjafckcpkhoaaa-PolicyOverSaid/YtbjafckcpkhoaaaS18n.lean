/- Lemmas for a law of the seat: what functions of the program do, each stated as a contract of its own (module S18n). -/
import Derived.Test.YtbjafckcpkhoaaaS18m
import Derived.Test.YtbjafckcpkhoaaaEngF
import Derived.Test.YtbjafckcpkhoaaaChecked
set_option linter.unusedVariables false
set_option maxRecDepth 100000
namespace Go.Eng
open Go.RowKit Go.Shelf Go.Proofs Pol

theorem ent6 : Enters Try.prog 6 := enters_of Try.func6 (by kernel_rfl) rfl
theorem ent7 : Enters Try.prog 7 := enters_of Try.func7 (by kernel_rfl) rfl
theorem ent9 : Enters Try.prog 9 := enters_of Try.func9 (by kernel_rfl) rfl
theorem ent11 : Enters Try.prog 11 := enters_of Try.func11 (by kernel_rfl) rfl
theorem ent12 : Enters Try.prog 12 := enters_of Try.func12 (by kernel_rfl) rfl
theorem und34 : Und Try.prog 34 (.slice 3) := by unfold Und; kernel_rfl
theorem ent13 : Enters Try.prog 13 := enters_of Try.func13 (by kernel_rfl) rfl

theorem two_of {α : Type} {a b x : α} {k : Nat} (h : [a, b][k]? = some x) : x = a ∨ x = b := by
  have := List.mem_of_getElem? h
  simpa using this
theorem hdr_pick {w : World} {A1 A2 : Option Addr} {n1 n2 c1 c2 : Nat} {a b : List Pol} {x : Hdr} (h : x = ⟨A1, n1, c1⟩ ∨ x = ⟨A2, n2, c2⟩) (h1 : RdP w A1 n1 a) (h2 : RdP w A2 n2 b) : ∃ s : List Pol, RdP w x.A x.n s ∧ (s = a ∨ s = b) := by
  rcases h with rfl | rfl
  · exact ⟨a, h1, .inl rfl⟩
  · exact ⟨b, h2, .inr rfl⟩
theorem short2 {A1 A2 : Option Addr} {n1 n2 c1 c2 : Nat} (h : shortH [⟨A1, n1, c1⟩, ⟨A2, n2, c2⟩] = true) : n1 ≤ 200 ∧ n2 ≤ 200 := by
  simp [shortH] at h; omega

theorem PolicyAgrees_spec {w : World} {A : Option Addr} {n c : Nat} {a : List Pol} {A2 : Option Addr} {n2 c2 : Nat} {b : List Pol} (hs : RdP w A n a) (hs2 : RdP w A2 n2 b) : Ret Try.prog 3 #[.slice A n c, .slice A2 n2 c2] w (fun v w' => v = .bool true ∧ Below w.heap.size w w') := by
  obtain ⟨bs1, os2, hA3, hc4⟩ := hs.flat
  have hln5 := hs.len
  have hbd6 := hs.bd
  have hlen_a := hs.len
  obtain ⟨bs7, os8, hA9, hc10⟩ := hs2.flat
  have hln11 := hs2.len
  have hbd12 := hs2.bd
  have hlen_b := hs2.len
  refine ret_of (args := [.slice A n c, .slice A2 n2 c2]) Try.func3 rfl Try.ntmps3 rfl (rs := [.tmp 4]) rfl ?_
  refine wc_seq ?_
  refine wc_region ?_
  refine wl_op rfl (op_assign rfl rfl ?_)
  refine (wl_done (then_norm ?_))
  refine wc_seq ?_
  refine wc_seq ?_
  refine wc_region ?_
  refine wl_op rfl (op_move rfl rfl ?_)
  refine wl_op rfl (op_move rfl rfl ?_)
  refine wl_op rfl (op_buildSlice (cs := #[.slice A n c, .slice A2 n2 c2]) (e := 22) rfl (fun w => by kernel_rfl) rfl ?_)
  intro W13 b14 hN15
  have hb16 : W13.heap[b14]? = some (.cells #[.slice A n c, .slice A2 n2 c2] 22 (0, 0)) := hN15.blk
  refine wl_op rfl (op_call ent6 rfl (short_spec (rd_of_blk (enc := encH) [(⟨A, n, c⟩ : Hdr), (⟨A2, n2, c2⟩ : Hdr)] hb16 (fun _ => rfl) rfl rfl rfl)) rfl ?_)
  rintro _ W17 ⟨rfl, hE18⟩
  refine wl_op rfl (op_not rfl rfl ?_)
  refine (wl_done (then_norm ?_))
  refine wc_cond (b := !(shortH [(⟨A, n, c⟩ : Hdr), (⟨A2, n2, c2⟩ : Hdr)])) rfl (fun hc19 => ?_) (fun hc19 => ?_)
  · refine wc_seq ?_
    refine wc_region ?_
    refine wl_op rfl (op_call ent7 rfl (awake_spec) rfl ?_)
    rintro _ W20 ⟨rfl, hE21⟩
    refine wl_op rfl (op_assign rfl rfl ?_)
    refine (wl_done (then_norm ?_))
    refine WC.sub [(0, .slice A n c), (1, .slice A2 n2 c2), (4, .bool true)] ⟨rfl, rfl, rfl, trivial⟩ ?_
    refine wc_ret ?_
    refine (then_ret ?_)
    have hB22 : Below w.heap.size w W20 := (below_step (below_step (below_new (Below.refl _ _) hN15) hE18) hE21)
    refine ⟨[_], ⟨rfl, trivial⟩, ⟨?_, hB22⟩⟩
    exact rfl
  · have hsh := short2 (by simpa using hc19)
    refine wc_skip ?_
    refine (then_norm ?_)
    refine wc_seq ?_
    refine wc_region ?_
    refine wl_op rfl (op_move rfl rfl ?_)
    have hB23 : Below w.heap.size w W17 := (below_step (below_new (Below.refl _ _) hN15) hE18)
    refine wl_op rfl (op_call ent8 rfl (Clashes_spec (hs.ext (flat_lifts _) hB23)) rfl ?_)
    rintro _ W28 ⟨A124, n125, c126, rfl, hp27, hE29⟩
    have hlen_l := hp27.len
    refine wl_op rfl (op_move rfl rfl ?_)
    refine wl_op rfl (op_extract (v := .slice A124 n125 c126) rfl rfl rfl ?_)
    refine wl_op rfl (op_extract (v := .int .i64 (chosenE a)) rfl rfl rfl ?_)
    refine wl_op rfl (op_assign rfl rfl ?_)
    refine wl_op rfl (op_assign rfl rfl ?_)
    refine (wl_done (then_norm ?_))
    refine WC.sub [(0, .slice A n c), (1, .slice A2 n2 c2), (4, .bool false), (5, .slice A124 n125 c126), (6, .int .i64 (chosenE a))] ⟨rfl, rfl, rfl, rfl, rfl, trivial⟩ ?_
    refine wc_seq ?_
    refine wc_region ?_
    refine wl_op rfl (op_move rfl rfl ?_)
    have hB30 : Below w.heap.size w W28 := (below_step hB23 hE29)
    refine wl_op rfl (op_call ent9 rfl (rClashes_spec (hs.ext (flat_lifts _) hB30)) rfl ?_)
    rintro _ W35 ⟨A131, n132, c133, rfl, hp34, hE36⟩
    have hlen_m := hp34.len
    refine wl_op rfl (op_move rfl rfl ?_)
    refine wl_op rfl (op_extract (v := .slice A131 n132 c133) rfl rfl rfl ?_)
    refine wl_op rfl (op_extract (v := .int .i64 (chosenE a)) rfl rfl rfl ?_)
    refine wl_op rfl (op_assign rfl rfl ?_)
    refine wl_op rfl (op_assign rfl rfl ?_)
    refine (wl_done (then_norm ?_))
    refine wc_seq ?_
    refine wc_seq ?_
    refine wc_text [(0, .slice A n c), (1, .slice A2 n2 c2), (4, .bool false), (5, .slice A124 n125 c126), (6, .int .i64 (chosenE a)), (7, .slice A131 n132 c133), (8, .int .i64 (chosenE a))] ⟨rfl, rfl, rfl, rfl, rfl, rfl, rfl, trivial⟩ [fun v _ => v = .int .i64 (chosenE a), fun v _ => v = .int .i64 (chosenE a), fun v _ => v = .bool (!decide (chosenE a = chosenE a)), fun v _ => v = .bool (!decide (chosenE a = chosenE a)), fun v _ => v = (bif (!(!decide (chosenE a = chosenE a))) then (.slice A124 n125 c126) else undef), fun v _ => v = (bif (!(!decide (chosenE a = chosenE a))) then (.int .i64 ((n125 : Nat) : Int)) else undef), fun v _ => v = (bif (!(!decide (chosenE a = chosenE a))) then (.slice A131 n132 c133) else undef), fun v _ => v = (bif (!(!decide (chosenE a = chosenE a))) then (.int .i64 ((n132 : Nat) : Int)) else undef), fun v _ => v = (bif (!(!decide (chosenE a = chosenE a))) then (.bool (!decide (((n125 : Nat) : Int) = ((n132 : Nat) : Int)))) else undef), fun v _ => v = .bool ((!decide (chosenE a = chosenE a)) || (!decide (((n125 : Nat) : Int) = ((n132 : Nat) : Int))))] [[], [], [0, 1], [2], [3], [3, 4], [3], [3, 6], [3, 5, 7], [3, 8]] [9] rfl rfl rfl ⟨fun _ _ _ _ h => h, fun _ _ _ _ h => h, fun _ _ _ _ h => h, fun _ _ _ _ h => h, fun _ _ _ _ h => h, fun _ _ _ _ h => h, fun _ _ _ _ h => h, fun _ _ _ _ h => h, fun _ _ _ _ h => h, fun _ _ _ _ h => h, trivial⟩ ⟨?_, ?_, ?_, ?_, ?_, ?_, ?_, ?_, ?_, ?_, trivial⟩ ?_
    · intro W37 hW38
      refine gather_nil ?_
      refine opg_none rfl ?_
      exact op_move rfl rfl ⟨told rfl rfl rfl, (Below.refl _ _)⟩
    · intro W37 hW38
      refine gather_nil ?_
      refine opg_none rfl ?_
      exact op_move rfl rfl ⟨told rfl rfl rfl, (Below.refl _ _)⟩
    · intro W37 hW38
      rintro _ rfl
      rintro _ rfl
      refine gather_nil ?_
      refine opg_none rfl ?_
      exact op_neq rfl rfl rfl ⟨told rfl rfl rfl, (Below.refl _ _)⟩
    · intro W37 hW38
      rintro _ rfl
      refine gather_nil ?_
      refine opg_none rfl ?_
      exact op_move rfl rfl ⟨told rfl rfl rfl, (Below.refl _ _)⟩
    · intro W37 hW38
      rintro _ rfl
      refine gather_nil ?_
      refine opg_f1 rfl rfl (fun hg39 => ?_) (fun h => by rw [h, cond_false])
      exact op_move rfl rfl ⟨told rfl rfl (by rw [hg39, cond_true]), (Below.refl _ _)⟩
    · intro W37 hW38
      rintro _ rfl
      intro v40 (hv41 : v40 = bif (!(!decide (chosenE a = chosenE a))) then (.slice A124 n125 c126) else undef)
      refine gather_nil ?_
      refine opg_f1 rfl rfl (fun hg42 => ?_) (fun h => by rw [h, cond_false])
      obtain rfl : v40 = .slice A124 n125 c126 := by rw [hv41, hg42, cond_true]
      exact op_len_slice rfl rfl und25 rfl rfl ⟨told rfl rfl (by rw [hg42, cond_true]), (Below.refl _ _)⟩
    · intro W37 hW38
      rintro _ rfl
      refine gather_nil ?_
      refine opg_f1 rfl rfl (fun hg43 => ?_) (fun h => by rw [h, cond_false])
      exact op_move rfl rfl ⟨told rfl rfl (by rw [hg43, cond_true]), (Below.refl _ _)⟩
    · intro W37 hW38
      rintro _ rfl
      intro v44 (hv45 : v44 = bif (!(!decide (chosenE a = chosenE a))) then (.slice A131 n132 c133) else undef)
      refine gather_nil ?_
      refine opg_f1 rfl rfl (fun hg46 => ?_) (fun h => by rw [h, cond_false])
      obtain rfl : v44 = .slice A131 n132 c133 := by rw [hv45, hg46, cond_true]
      exact op_len_slice rfl rfl und25 rfl rfl ⟨told rfl rfl (by rw [hg46, cond_true]), (Below.refl _ _)⟩
    · intro W37 hW38
      rintro _ rfl
      intro v47 (hv48 : v47 = bif (!(!decide (chosenE a = chosenE a))) then (.int .i64 ((n125 : Nat) : Int)) else undef)
      intro v49 (hv50 : v49 = bif (!(!decide (chosenE a = chosenE a))) then (.int .i64 ((n132 : Nat) : Int)) else undef)
      refine gather_nil ?_
      refine opg_f1 rfl rfl (fun hg51 => ?_) (fun h => by rw [h, cond_false])
      obtain rfl : v47 = .int .i64 ((n125 : Nat) : Int) := by rw [hv48, hg51, cond_true]
      obtain rfl : v49 = .int .i64 ((n132 : Nat) : Int) := by rw [hv50, hg51, cond_true]
      exact op_neq rfl rfl rfl ⟨told rfl rfl (by rw [hg51, cond_true]), (Below.refl _ _)⟩
    · intro W37 hW38
      rintro _ rfl
      intro v52 (hv53 : v52 = bif (!(!decide (chosenE a = chosenE a))) then (.bool (!decide (((n125 : Nat) : Int) = ((n132 : Nat) : Int)))) else undef)
      refine gather_nil ?_
      refine opg_none rfl ?_
      exact op_or rfl rfl rfl (fun h => by rw [hv53, (not_i h), cond_true]) rfl ⟨told rfl rfl rfl, (Below.refl _ _)⟩
    intro W54 hW55
    rintro _ rfl
    refine gather_nil ?_
    refine (then_norm ?_)
    refine wc_cond (b := (!decide (chosenE a = chosenE a)) || (!decide (((n125 : Nat) : Int) = ((n132 : Nat) : Int)))) rfl (fun hc56 => ?_) (fun hc56 => ?_)
    · exfalso
      simp at hc56
      omega
    · refine wc_skip ?_
      refine (then_norm ?_)
      refine wc_seq ?_
      refine wc_seq ?_
      refine wc_region ?_
      refine wl_op rfl (op_move rfl rfl ?_)
      refine wl_op rfl (op_len_slice rfl rfl und25 rfl rfl ?_)
      refine wl_op rfl (op_move rfl rfl ?_)
      refine (wl_done (then_norm ?_))
      refine wc_block ?_
      refine wc_loop (σ := Nat × World) (fun st_ => [(0, .slice A n c), (1, .slice A2 n2 c2), (4, .bool false), (5, .slice A124 n125 c126), (6, .int .i64 (chosenE a)), (7, .slice A131 n132 c133), (55, .int .i64 ((n125 : Nat) : Int)), (56, .int .i64 (st_.1 : Int))]) (fun st_ => st_.2) (fun st_ => (st_.1 ≤ n125) ∧ (Below W54.heap.size W54 st_.2)) (fun st_ => n125 - st_.1) (0, W54) ⟨(by first | omega | (dsimp only; omega)), (Below.refl _ _)⟩ ⟨rfl, rfl, rfl, rfl, rfl, rfl, rfl, rfl, trivial⟩ rfl ?_
      rintro ⟨k, W57⟩ ⟨hk, hE58⟩
      dsimp only at hk hE58
      refine wc_at [(0, .slice A n c), (1, .slice A2 n2 c2), (4, .bool false), (5, .slice A124 n125 c126), (6, .int .i64 (chosenE a)), (7, .slice A131 n132 c133), (55, .int .i64 ((n125 : Nat) : Int)), (56, .int .i64 (k : Int))] W57 ⟨rfl, rfl, rfl, rfl, rfl, rfl, rfl, rfl, trivial⟩ rfl ?_
      refine wc_seq ?_
      refine wc_region ?_
      refine wl_op rfl (op_lss rfl rfl rfl ?_)
      refine (wl_done (then_norm ?_))
      refine wc_seq ?_
      refine wc_cond (b := decide ((k : Int) < ((n125 : Nat) : Int))) rfl (fun hc59 => ?_) (fun hc59 => ?_)
      · have hc59r := hc59
        have hc59 := of_decide_eq_true hc59
        refine wc_skip ?_
        refine (then_norm ?_)
        refine wc_seq ?_
        refine wc_block ?_
        refine wc_seq ?_
        refine wc_region ?_
        refine wl_op rfl (op_move rfl rfl ?_)
        refine wl_op rfl (op_assign rfl rfl ?_)
        refine (wl_done (then_norm ?_))
        refine wc_seq ?_
        obtain ⟨bs62, os63, hA64, hc65⟩ := hp27.flat
        have hln66 := hp27.len
        have hbd67 := hp27.bd
        obtain ⟨x_clashL_a_k, hx_clashL_a_k⟩ : ∃ x, (clashL a)[k]? = some x := ⟨_, List.getElem?_eq_getElem (by have := hp27.len; omega)⟩
        obtain ⟨bs69, os70, hA71, hc72⟩ := hp34.flat
        have hln73 := hp34.len
        have hbd74 := hp34.bd
        obtain ⟨x_clashL_a_k_2, hx_clashL_a_k_2⟩ : ∃ x, (clashL a)[k]? = some x := ⟨_, List.getElem?_eq_getElem (by have := hp34.len; omega)⟩
        refine wc_draw mixed [(0, .slice A n c), (1, .slice A2 n2 c2), (4, .bool false), (5, .slice A124 n125 c126), (6, .int .i64 (chosenE a)), (7, .slice A131 n132 c133), (55, .int .i64 ((n125 : Nat) : Int)), (56, .int .i64 (k : Int)), (57, .bool (decide ((k : Int) < ((n125 : Nat) : Int)))), (58, .int .i64 (k : Int)), (9, .int .i64 (k : Int))] ⟨rfl, rfl, rfl, rfl, rfl, rfl, rfl, rfl, rfl, rfl, rfl, trivial⟩ [fun v _ => v = .slice A124 n125 c126, fun v _ => v = .int .i64 (k : Int), fun v _ => v = .pointer (some ⟨bs62, os63 + k * 2, none⟩), fun v _ => v = .agg #[.int .i64 x_clashL_a_k.1, .int .i64 x_clashL_a_k.2], fun v _ => v = .slice A131 n132 c133, fun v _ => v = .int .i64 (k : Int), fun v _ => v = .pointer (some ⟨bs69, os70 + k * 2, none⟩), fun v _ => v = .agg #[.int .i64 x_clashL_a_k_2.1, .int .i64 x_clashL_a_k_2.2], fun v _ => v = .bool (!((decide (x_clashL_a_k.1 = x_clashL_a_k_2.1)) && (decide (x_clashL_a_k.2 = x_clashL_a_k_2.2))))] [[], [], [0, 1], [2], [], [], [4, 5], [6], [3, 7]] [0, 1, 2, 3, 4, 5, 6, 7, 8] rfl rfl rfl ⟨fun _ _ _ _ h => h, fun _ _ _ _ h => h, fun _ _ _ _ h => h, fun _ _ _ _ h => h, fun _ _ _ _ h => h, fun _ _ _ _ h => h, fun _ _ _ _ h => h, fun _ _ _ _ h => h, fun _ _ _ _ h => h, trivial⟩ ⟨?_, ?_, ?_, ?_, ?_, ?_, ?_, ?_, ?_, trivial⟩ ?_
        · intro W60 hW61
          refine gather_nil ?_
          refine opg_none rfl ?_
          exact op_move rfl rfl ⟨told rfl rfl rfl, (Below.refl _ _)⟩
        · intro W60 hW61
          refine gather_nil ?_
          refine opg_none rfl ?_
          exact op_move rfl rfl ⟨told rfl rfl rfl, (Below.refl _ _)⟩
        · intro W60 hW61
          rintro _ rfl
          rintro _ rfl
          refine gather_nil ?_
          refine opg_none rfl ?_
          exact op_indexAddr (j := k) rfl rfl und25 sz29 (hA64 (by omega)) rfl (by omega) rfl ⟨told rfl rfl rfl, (Below.refl _ _)⟩
        · intro W60 hW61
          rintro _ rfl
          refine gather_nil ?_
          refine opg_none rfl ?_
          have hB76 : Below W28.heap.size W28 W60 := (below_step (below_step (below_step (below_step (Below.refl _ _) hE36) hW55) hE58) hW61)
          exact op_loadN (vs := [.int .i64 x_clashL_a_k.1, .int .i64 x_clashL_a_k.2]) rfl agg29 sz29 rfl ((hc65 k x_clashL_a_k hx_clashL_a_k).ext hB76) rfl ⟨told rfl rfl rfl, (Below.refl _ _)⟩
        · intro W60 hW61
          refine gather_nil ?_
          refine opg_none rfl ?_
          exact op_move rfl rfl ⟨told rfl rfl rfl, (Below.refl _ _)⟩
        · intro W60 hW61
          refine gather_nil ?_
          refine opg_none rfl ?_
          exact op_move rfl rfl ⟨told rfl rfl rfl, (Below.refl _ _)⟩
        · intro W60 hW61
          rintro _ rfl
          rintro _ rfl
          refine gather_nil ?_
          refine opg_none rfl ?_
          exact op_indexAddr (j := k) rfl rfl und25 sz29 (hA71 (by omega)) rfl (by omega) rfl ⟨told rfl rfl rfl, (Below.refl _ _)⟩
        · intro W60 hW61
          rintro _ rfl
          refine gather_nil ?_
          refine opg_none rfl ?_
          have hB77 : Below W35.heap.size W35 W60 := (below_step (below_step (below_step (Below.refl _ _) hW55) hE58) hW61)
          exact op_loadN (vs := [.int .i64 x_clashL_a_k_2.1, .int .i64 x_clashL_a_k_2.2]) rfl agg29 sz29 rfl ((hc72 k x_clashL_a_k_2 hx_clashL_a_k_2).ext hB77) rfl ⟨told rfl rfl rfl, (Below.refl _ _)⟩
        · intro W60 hW61
          rintro _ rfl
          rintro _ rfl
          refine gather_nil ?_
          refine opg_none rfl ?_
          exact op_neqA (X := [.int .i64 x_clashL_a_k.1, .int .i64 x_clashL_a_k.2]) (Y := [.int .i64 x_clashL_a_k_2.1, .int .i64 x_clashL_a_k_2.2]) (b := (decide (x_clashL_a_k.1 = x_clashL_a_k_2.1)) && (decide (x_clashL_a_k.2 = x_clashL_a_k_2.2))) rfl rfl eq29 rfl rfl ⟨told rfl rfl rfl, (Below.refl _ _)⟩
        intro W78 hW79
        rintro _ rfl
        rintro _ rfl
        rintro _ rfl
        rintro _ rfl
        rintro _ rfl
        rintro _ rfl
        rintro _ rfl
        rintro _ rfl
        rintro _ rfl
        refine gather_nil ?_
        refine (then_norm ?_)
        refine wc_cond (b := !((decide (x_clashL_a_k.1 = x_clashL_a_k_2.1)) && (decide (x_clashL_a_k.2 = x_clashL_a_k_2.2)))) rfl (fun hc80 => ?_) (fun hc80 => ?_)
        · exfalso
          rw [hx_clashL_a_k] at hx_clashL_a_k_2
          cases hx_clashL_a_k_2
          simp at hc80
        · refine wc_skip ?_
          refine (block_norm (then_norm ?_))
          refine wc_region ?_
          refine wl_op rfl (op_add (r := ((k + 1 : Nat) : Int)) rfl rfl (by omega) (by omega) rfl ?_)
          refine wl_op rfl (op_move rfl rfl ?_)
          refine (wl_done (then_norm ?_))
          have hB81 : Below W54.heap.size W54 W78 := (below_step (below_step (Below.refl _ _) hE58) hW79)
          refine ⟨((k + 1), W78), ⟨(by first | omega | (dsimp only; omega)), hB81⟩, ?_, ⟨rfl, rfl, rfl, rfl, rfl, rfl, rfl, rfl, trivial⟩, rfl⟩
          · dsimp only; omega
      · have hc59r := hc59
        have hc59 := of_decide_eq_false hc59
        refine wc_exit ?_
        refine (then_exit (then_exit (block_here (then_norm ?_))))
        refine wc_seq ?_
        refine wc_region ?_
        refine wl_op rfl (op_move rfl rfl ?_)
        refine wl_op rfl (op_move rfl rfl ?_)
        have hB82 : Below w.heap.size w W57 := (below_step (below_step (below_step hB30 hE36) hW55) hE58)
        refine wl_op rfl (op_call ent10 rfl (Agree_spec (hs.ext (flat_lifts _) hB82) (hs2.ext (flat_lifts _) hB82) (by omega) (by omega)) rfl ?_)
        rintro _ W87 ⟨A183, n184, c185, rfl, hp86, hE88⟩
        refine wl_op rfl (op_move rfl rfl ?_)
        refine wl_op rfl (op_extract (v := .slice A183 n184 c185) rfl rfl rfl ?_)
        refine wl_op rfl (op_extract (v := .int .i64 ((agree a b).2.1)) rfl rfl rfl ?_)
        refine wl_op rfl (op_extract (v := .int .i64 ((agree a b).2.2)) rfl rfl rfl ?_)
        refine wl_op rfl (op_assign rfl rfl ?_)
        refine wl_op rfl (op_assign rfl rfl ?_)
        refine wl_op rfl (op_assign rfl rfl ?_)
        refine (wl_done (then_norm ?_))
        refine WC.sub [(0, .slice A n c), (1, .slice A2 n2 c2), (4, .bool false), (5, .slice A124 n125 c126), (6, .int .i64 (chosenE a)), (10, .slice A183 n184 c185), (11, .int .i64 ((agree a b).2.1)), (12, .int .i64 ((agree a b).2.2))] ⟨rfl, rfl, rfl, rfl, rfl, rfl, rfl, rfl, trivial⟩ ?_
        refine wc_seq ?_
        refine wc_region ?_
        refine wl_op rfl (op_move rfl rfl ?_)
        refine wl_op rfl (op_move rfl rfl ?_)
        have hB89 : Below w.heap.size w W87 := (below_step hB82 hE88)
        refine wl_op rfl (op_call ent11 rfl (rAgree_spec (hs.ext (flat_lifts _) hB89) (hs2.ext (flat_lifts _) hB89) (by omega) (by omega)) rfl ?_)
        rintro _ W94 ⟨A190, n191, c192, rfl, hp93, hE95⟩
        refine wl_op rfl (op_move rfl rfl ?_)
        refine wl_op rfl (op_extract (v := .slice A190 n191 c192) rfl rfl rfl ?_)
        refine wl_op rfl (op_extract (v := .int .i64 ((agree a b).2.1)) rfl rfl rfl ?_)
        refine wl_op rfl (op_extract (v := .int .i64 ((agree a b).2.2)) rfl rfl rfl ?_)
        refine wl_op rfl (op_assign rfl rfl ?_)
        refine wl_op rfl (op_assign rfl rfl ?_)
        refine wl_op rfl (op_assign rfl rfl ?_)
        refine (wl_done (then_norm ?_))
        refine WC.sub [(0, .slice A n c), (1, .slice A2 n2 c2), (4, .bool false), (5, .slice A124 n125 c126), (6, .int .i64 (chosenE a)), (10, .slice A183 n184 c185), (11, .int .i64 ((agree a b).2.1)), (12, .int .i64 ((agree a b).2.2)), (13, .slice A190 n191 c192), (14, .int .i64 ((agree a b).2.1)), (15, .int .i64 ((agree a b).2.2))] ⟨rfl, rfl, rfl, rfl, rfl, rfl, rfl, rfl, rfl, rfl, rfl, trivial⟩ ?_
        refine wc_seq ?_
        refine wc_seq ?_
        refine wc_text [(0, .slice A n c), (1, .slice A2 n2 c2), (4, .bool false), (5, .slice A124 n125 c126), (6, .int .i64 (chosenE a)), (10, .slice A183 n184 c185), (11, .int .i64 ((agree a b).2.1)), (12, .int .i64 ((agree a b).2.2)), (13, .slice A190 n191 c192), (14, .int .i64 ((agree a b).2.1)), (15, .int .i64 ((agree a b).2.2))] ⟨rfl, rfl, rfl, rfl, rfl, rfl, rfl, rfl, rfl, rfl, rfl, trivial⟩ [fun v _ => v = .slice A183 n184 c185, fun v _ => v = .slice A190 n191 c192, fun v _ => v = .bool (decide (((agree a b).1) = ((agree a b).1))), fun v _ => v = .bool (!(decide (((agree a b).1) = ((agree a b).1)))), fun v _ => v = .bool (!(decide (((agree a b).1) = ((agree a b).1)))), fun v _ => v = (bif (!(!(decide (((agree a b).1) = ((agree a b).1))))) then (.int .i64 ((agree a b).2.1)) else undef), fun v _ => v = (bif (!(!(decide (((agree a b).1) = ((agree a b).1))))) then (.int .i64 ((agree a b).2.1)) else undef), fun v _ => v = (bif (!(!(decide (((agree a b).1) = ((agree a b).1))))) then (.bool (!decide ((agree a b).2.1 = (agree a b).2.1))) else undef), fun v _ => v = .bool ((!(decide (((agree a b).1) = ((agree a b).1)))) || (!decide ((agree a b).2.1 = (agree a b).2.1))), fun v _ => v = .bool ((!(decide (((agree a b).1) = ((agree a b).1)))) || (!decide ((agree a b).2.1 = (agree a b).2.1))), fun v _ => v = (bif (!((!(decide (((agree a b).1) = ((agree a b).1)))) || (!decide ((agree a b).2.1 = (agree a b).2.1)))) then (.int .i64 ((agree a b).2.2)) else undef), fun v _ => v = (bif (!((!(decide (((agree a b).1) = ((agree a b).1)))) || (!decide ((agree a b).2.1 = (agree a b).2.1)))) then (.int .i64 ((agree a b).2.2)) else undef), fun v _ => v = (bif (!((!(decide (((agree a b).1) = ((agree a b).1)))) || (!decide ((agree a b).2.1 = (agree a b).2.1)))) then (.bool (!decide ((agree a b).2.2 = (agree a b).2.2))) else undef), fun v _ => v = .bool (((!(decide (((agree a b).1) = ((agree a b).1)))) || (!decide ((agree a b).2.1 = (agree a b).2.1))) || (!decide ((agree a b).2.2 = (agree a b).2.2)))] [[], [], [0, 1], [2], [3], [4], [4], [4, 5, 6], [4, 7], [8], [9], [9], [9, 10, 11], [9, 12]] [13] rfl rfl rfl ⟨fun _ _ _ _ h => h, fun _ _ _ _ h => h, fun _ _ _ _ h => h, fun _ _ _ _ h => h, fun _ _ _ _ h => h, fun _ _ _ _ h => h, fun _ _ _ _ h => h, fun _ _ _ _ h => h, fun _ _ _ _ h => h, fun _ _ _ _ h => h, fun _ _ _ _ h => h, fun _ _ _ _ h => h, fun _ _ _ _ h => h, fun _ _ _ _ h => h, trivial⟩ ⟨?_, ?_, ?_, ?_, ?_, ?_, ?_, ?_, ?_, ?_, ?_, ?_, ?_, ?_, trivial⟩ ?_
        · intro W96 hW97
          refine gather_nil ?_
          refine opg_none rfl ?_
          exact op_move rfl rfl ⟨told rfl rfl rfl, (Below.refl _ _)⟩
        · intro W96 hW97
          refine gather_nil ?_
          refine opg_none rfl ?_
          exact op_move rfl rfl ⟨told rfl rfl rfl, (Below.refl _ _)⟩
        · intro W96 hW97
          rintro _ rfl
          rintro _ rfl
          refine gather_nil ?_
          refine opg_none rfl ?_
          have hB100 : Below W87.heap.size W87 W96 := (below_step (below_step (Below.refl _ _) hE95) hW97)
          have hB101 : Below W94.heap.size W94 W96 := (below_step (Below.refl _ _) hW97)
          refine op_call ent12 rfl (same_spec (hp86.ext (flat_lifts _) hB100) (hp93.ext (flat_lifts _) hB101)) rfl ?_
          rintro _ W102 ⟨rfl, hE103⟩
          exact ⟨told rfl rfl rfl, hE103⟩
        · intro W96 hW97
          rintro _ rfl
          refine gather_nil ?_
          refine opg_none rfl ?_
          exact op_not rfl rfl ⟨told rfl rfl rfl, (Below.refl _ _)⟩
        · intro W96 hW97
          rintro _ rfl
          refine gather_nil ?_
          refine opg_none rfl ?_
          exact op_move rfl rfl ⟨told rfl rfl rfl, (Below.refl _ _)⟩
        · intro W96 hW97
          rintro _ rfl
          refine gather_nil ?_
          refine opg_f1 rfl rfl (fun hg104 => ?_) (fun h => by rw [h, cond_false])
          exact op_move rfl rfl ⟨told rfl rfl (by rw [hg104, cond_true]), (Below.refl _ _)⟩
        · intro W96 hW97
          rintro _ rfl
          refine gather_nil ?_
          refine opg_f1 rfl rfl (fun hg105 => ?_) (fun h => by rw [h, cond_false])
          exact op_move rfl rfl ⟨told rfl rfl (by rw [hg105, cond_true]), (Below.refl _ _)⟩
        · intro W96 hW97
          rintro _ rfl
          intro v106 (hv107 : v106 = bif (!(!(decide (((agree a b).1) = ((agree a b).1))))) then (.int .i64 ((agree a b).2.1)) else undef)
          intro v108 (hv109 : v108 = bif (!(!(decide (((agree a b).1) = ((agree a b).1))))) then (.int .i64 ((agree a b).2.1)) else undef)
          refine gather_nil ?_
          refine opg_f1 rfl rfl (fun hg110 => ?_) (fun h => by rw [h, cond_false])
          obtain rfl : v106 = .int .i64 ((agree a b).2.1) := by rw [hv107, hg110, cond_true]
          obtain rfl : v108 = .int .i64 ((agree a b).2.1) := by rw [hv109, hg110, cond_true]
          exact op_neq rfl rfl rfl ⟨told rfl rfl (by rw [hg110, cond_true]), (Below.refl _ _)⟩
        · intro W96 hW97
          rintro _ rfl
          intro v111 (hv112 : v111 = bif (!(!(decide (((agree a b).1) = ((agree a b).1))))) then (.bool (!decide ((agree a b).2.1 = (agree a b).2.1))) else undef)
          refine gather_nil ?_
          refine opg_none rfl ?_
          exact op_or rfl rfl rfl (fun h => by rw [hv112, (not_i h), cond_true]) rfl ⟨told rfl rfl rfl, (Below.refl _ _)⟩
        · intro W96 hW97
          rintro _ rfl
          refine gather_nil ?_
          refine opg_none rfl ?_
          exact op_move rfl rfl ⟨told rfl rfl rfl, (Below.refl _ _)⟩
        · intro W96 hW97
          rintro _ rfl
          refine gather_nil ?_
          refine opg_f1 rfl rfl (fun hg113 => ?_) (fun h => by rw [h, cond_false])
          exact op_move rfl rfl ⟨told rfl rfl (by rw [hg113, cond_true]), (Below.refl _ _)⟩
        · intro W96 hW97
          rintro _ rfl
          refine gather_nil ?_
          refine opg_f1 rfl rfl (fun hg114 => ?_) (fun h => by rw [h, cond_false])
          exact op_move rfl rfl ⟨told rfl rfl (by rw [hg114, cond_true]), (Below.refl _ _)⟩
        · intro W96 hW97
          rintro _ rfl
          intro v115 (hv116 : v115 = bif (!((!(decide (((agree a b).1) = ((agree a b).1)))) || (!decide ((agree a b).2.1 = (agree a b).2.1)))) then (.int .i64 ((agree a b).2.2)) else undef)
          intro v117 (hv118 : v117 = bif (!((!(decide (((agree a b).1) = ((agree a b).1)))) || (!decide ((agree a b).2.1 = (agree a b).2.1)))) then (.int .i64 ((agree a b).2.2)) else undef)
          refine gather_nil ?_
          refine opg_f1 rfl rfl (fun hg119 => ?_) (fun h => by rw [h, cond_false])
          obtain rfl : v115 = .int .i64 ((agree a b).2.2) := by rw [hv116, hg119, cond_true]
          obtain rfl : v117 = .int .i64 ((agree a b).2.2) := by rw [hv118, hg119, cond_true]
          exact op_neq rfl rfl rfl ⟨told rfl rfl (by rw [hg119, cond_true]), (Below.refl _ _)⟩
        · intro W96 hW97
          rintro _ rfl
          intro v120 (hv121 : v120 = bif (!((!(decide (((agree a b).1) = ((agree a b).1)))) || (!decide ((agree a b).2.1 = (agree a b).2.1)))) then (.bool (!decide ((agree a b).2.2 = (agree a b).2.2))) else undef)
          refine gather_nil ?_
          refine opg_none rfl ?_
          exact op_or rfl rfl rfl (fun h => by rw [hv121, (not_i h), cond_true]) rfl ⟨told rfl rfl rfl, (Below.refl _ _)⟩
        intro W122 hW123
        rintro _ rfl
        refine gather_nil ?_
        refine (then_norm ?_)
        refine wc_cond (b := ((!(decide (((agree a b).1) = ((agree a b).1)))) || (!decide ((agree a b).2.1 = (agree a b).2.1))) || (!decide ((agree a b).2.2 = (agree a b).2.2))) rfl (fun hc124 => ?_) (fun hc124 => ?_)
        · exfalso
          simp at hc124
        · refine wc_skip ?_
          refine (then_norm ?_)
          refine wc_seq ?_
          refine wc_seq ?_
          refine wc_region ?_
          refine wl_op rfl (op_move rfl rfl ?_)
          refine wl_op rfl (op_neq rfl rfl rfl ?_)
          refine (wl_done (then_norm ?_))
          refine WC.sub [(0, .slice A n c), (1, .slice A2 n2 c2), (4, .bool false), (5, .slice A124 n125 c126), (6, .int .i64 (chosenE a)), (10, .slice A183 n184 c185), (98, .bool (!decide ((agree a b).2.2 = 0)))] ⟨rfl, rfl, rfl, rfl, rfl, rfl, rfl, trivial⟩ ?_
          refine wc_cond (b := !decide ((agree a b).2.2 = 0)) rfl (fun hc125 => ?_) (fun hc125 => ?_)
          · have hc125r := hc125
            have hc125 := of_decide_eq_false (not_t hc125)
            refine wc_seq ?_
            refine wc_region ?_
            refine wl_op rfl (op_call ent7 rfl (awake_spec) rfl ?_)
            rintro _ W126 ⟨rfl, hE127⟩
            refine wl_op rfl (op_assign rfl rfl ?_)
            refine (wl_done (then_norm ?_))
            refine wc_ret ?_
            refine (then_ret ?_)
            have hB128 : Below w.heap.size w W126 := (below_step (below_step (below_step hB89 hE95) hW123) hE127)
            refine ⟨[_], ⟨rfl, trivial⟩, ⟨?_, hB128⟩⟩
            exact rfl
          · have hc125r := hc125
            have hc125 := of_decide_eq_true (not_f hc125)
            refine wc_skip ?_
            refine (then_norm ?_)
            refine wc_seq ?_
            refine wc_seq ?_
            refine wc_region ?_
            refine wl_op rfl (op_move rfl rfl ?_)
            have hB129 : Below W87.heap.size W87 W122 := (below_step (below_step (Below.refl _ _) hE95) hW123)
            refine wl_op rfl (op_call ent8 rfl (Clashes_spec (hp86.ext (flat_lifts _) hB129)) rfl ?_)
            rintro _ W134 ⟨A1130, n1131, c1132, rfl, hp133, hE135⟩
            have hlen_X := hp133.len
            rw [okX_clash hc125] at hlen_X
            have hlen_X0 : 0 = n1131 := hlen_X
            refine wl_op rfl (op_move rfl rfl ?_)
            refine wl_op rfl (op_extract (v := .slice A1130 n1131 c1132) rfl rfl rfl ?_)
            refine wl_op rfl (op_extract (v := .int .i64 (chosenE ((agree a b).1))) rfl rfl rfl ?_)
            refine wl_op rfl (op_assign rfl rfl ?_)
            refine wl_op rfl (op_assign rfl rfl ?_)
            refine (wl_done (then_norm ?_))
            refine WC.sub [(0, .slice A n c), (1, .slice A2 n2 c2), (4, .bool false), (5, .slice A1130 n1131 c1132), (6, .int .i64 (chosenE ((agree a b).1))), (10, .slice A183 n184 c185)] ⟨rfl, rfl, rfl, rfl, rfl, rfl, trivial⟩ ?_
            refine wc_seq ?_
            refine wc_text [(0, .slice A n c), (1, .slice A2 n2 c2), (4, .bool false), (5, .slice A1130 n1131 c1132), (6, .int .i64 (chosenE ((agree a b).1))), (10, .slice A183 n184 c185)] ⟨rfl, rfl, rfl, rfl, rfl, rfl, trivial⟩ [fun v _ => v = .int .i64 (chosenE ((agree a b).1)), fun v _ => v = .bool (!decide (chosenE ((agree a b).1) = 0)), fun v _ => v = .bool (!decide (chosenE ((agree a b).1) = 0)), fun v _ => v = (bif (!(!decide (chosenE ((agree a b).1) = 0))) then (.slice A1130 n1131 c1132) else undef), fun v _ => v = (bif (!(!decide (chosenE ((agree a b).1) = 0))) then (.int .i64 ((n1131 : Nat) : Int)) else undef), fun v _ => v = (bif (!(!decide (chosenE ((agree a b).1) = 0))) then (.bool (!decide (((n1131 : Nat) : Int) = 0))) else undef), fun v _ => v = .bool ((!decide (chosenE ((agree a b).1) = 0)) || (!decide (((n1131 : Nat) : Int) = 0)))] [[], [0], [1], [2], [2, 3], [2, 4], [2, 5]] [6] rfl rfl rfl ⟨fun _ _ _ _ h => h, fun _ _ _ _ h => h, fun _ _ _ _ h => h, fun _ _ _ _ h => h, fun _ _ _ _ h => h, fun _ _ _ _ h => h, fun _ _ _ _ h => h, trivial⟩ ⟨?_, ?_, ?_, ?_, ?_, ?_, ?_, trivial⟩ ?_
            · intro W136 hW137
              refine gather_nil ?_
              refine opg_none rfl ?_
              exact op_move rfl rfl ⟨told rfl rfl rfl, (Below.refl _ _)⟩
            · intro W136 hW137
              rintro _ rfl
              refine gather_nil ?_
              refine opg_none rfl ?_
              exact op_neq rfl rfl rfl ⟨told rfl rfl rfl, (Below.refl _ _)⟩
            · intro W136 hW137
              rintro _ rfl
              refine gather_nil ?_
              refine opg_none rfl ?_
              exact op_move rfl rfl ⟨told rfl rfl rfl, (Below.refl _ _)⟩
            · intro W136 hW137
              rintro _ rfl
              refine gather_nil ?_
              refine opg_f1 rfl rfl (fun hg138 => ?_) (fun h => by rw [h, cond_false])
              exact op_move rfl rfl ⟨told rfl rfl (by rw [hg138, cond_true]), (Below.refl _ _)⟩
            · intro W136 hW137
              rintro _ rfl
              intro v139 (hv140 : v139 = bif (!(!decide (chosenE ((agree a b).1) = 0))) then (.slice A1130 n1131 c1132) else undef)
              refine gather_nil ?_
              refine opg_f1 rfl rfl (fun hg141 => ?_) (fun h => by rw [h, cond_false])
              obtain rfl : v139 = .slice A1130 n1131 c1132 := by rw [hv140, hg141, cond_true]
              exact op_len_slice rfl rfl und25 rfl rfl ⟨told rfl rfl (by rw [hg141, cond_true]), (Below.refl _ _)⟩
            · intro W136 hW137
              rintro _ rfl
              intro v142 (hv143 : v142 = bif (!(!decide (chosenE ((agree a b).1) = 0))) then (.int .i64 ((n1131 : Nat) : Int)) else undef)
              refine gather_nil ?_
              refine opg_f1 rfl rfl (fun hg144 => ?_) (fun h => by rw [h, cond_false])
              obtain rfl : v142 = .int .i64 ((n1131 : Nat) : Int) := by rw [hv143, hg144, cond_true]
              exact op_neq rfl rfl rfl ⟨told rfl rfl (by rw [hg144, cond_true]), (Below.refl _ _)⟩
            · intro W136 hW137
              rintro _ rfl
              intro v145 (hv146 : v145 = bif (!(!decide (chosenE ((agree a b).1) = 0))) then (.bool (!decide (((n1131 : Nat) : Int) = 0))) else undef)
              refine gather_nil ?_
              refine opg_none rfl ?_
              exact op_or rfl rfl rfl (fun h => by rw [hv146, (not_i h), cond_true]) rfl ⟨told rfl rfl rfl, (Below.refl _ _)⟩
            intro W147 hW148
            rintro _ rfl
            refine gather_nil ?_
            refine (then_norm ?_)
            refine wc_cond (b := (!decide (chosenE ((agree a b).1) = 0)) || (!decide (((n1131 : Nat) : Int) = 0))) rfl (fun hc149 => ?_) (fun hc149 => ?_)
            · exfalso
              rw [okX_E hc125] at hc149
              simp at hc149
              omega
            · refine wc_skip ?_
              refine (then_norm ?_)
              refine wc_seq ?_
              refine wc_seq ?_
              refine wc_region ?_
              refine wl_op rfl (op_move rfl rfl ?_)
              refine wl_op rfl (op_move rfl rfl ?_)
              refine wl_op rfl (op_buildSlice (cs := #[.slice A n c, .slice A2 n2 c2]) (e := 22) rfl (fun w => by kernel_rfl) rfl ?_)
              intro W150 b151 hN152
              have hb153 : W150.heap[b151]? = some (.cells #[.slice A n c, .slice A2 n2 c2] 22 (0, 0)) := hN152.blk
              have hrd154 : RdH W150 (some ⟨b151, 0, none⟩) 2 [(⟨A, n, c⟩ : Hdr), (⟨A2, n2, c2⟩ : Hdr)] := (rd_of_blk (enc := encH) [(⟨A, n, c⟩ : Hdr), (⟨A2, n2, c2⟩ : Hdr)] hb153 (fun _ => rfl) rfl rfl rfl)
              refine wl_op rfl (op_len_slice rfl rfl und33 rfl rfl ?_)
              refine wl_op rfl (op_move rfl rfl ?_)
              refine (wl_done (then_norm ?_))
              refine WC.sub [(4, .bool false), (10, .slice A183 n184 c185), (114, .slice (some ⟨b151, 0, none⟩) 2 2), (115, .int .i64 2), (116, .int .i64 0)] ⟨rfl, rfl, rfl, rfl, rfl, trivial⟩ ?_
              refine wc_block ?_
              refine wc_loop (σ := Nat × World) (fun st_ => [(4, .bool false), (10, .slice A183 n184 c185), (114, .slice (some ⟨b151, 0, none⟩) 2 2), (115, .int .i64 2), (116, .int .i64 (st_.1 : Int))]) (fun st_ => st_.2) (fun st_ => (st_.1 ≤ 2) ∧ (Below W150.heap.size W150 st_.2)) (fun st_ => 2 - st_.1) (0, W150) ⟨(by first | omega | (dsimp only; omega)), (Below.refl _ _)⟩ ⟨rfl, rfl, rfl, rfl, rfl, trivial⟩ rfl ?_
              rintro ⟨k, W155⟩ ⟨hk, hE156⟩
              dsimp only at hk hE156
              refine wc_at [(4, .bool false), (10, .slice A183 n184 c185), (114, .slice (some ⟨b151, 0, none⟩) 2 2), (115, .int .i64 2), (116, .int .i64 (k : Int))] W155 ⟨rfl, rfl, rfl, rfl, rfl, trivial⟩ rfl ?_
              refine wc_seq ?_
              refine wc_region ?_
              refine wl_op rfl (op_lss rfl rfl rfl ?_)
              refine (wl_done (then_norm ?_))
              refine wc_seq ?_
              refine wc_cond (b := decide ((k : Int) < 2)) rfl (fun hc157 => ?_) (fun hc157 => ?_)
              · have hc157r := hc157
                have hc157 := of_decide_eq_true hc157
                refine wc_skip ?_
                refine (then_norm ?_)
                refine wc_seq ?_
                refine wc_block ?_
                refine wc_seq ?_
                refine wc_region ?_
                obtain ⟨bs158, os159, hA160, hc161⟩ := hrd154.flat
                have hln162 := hrd154.len
                have hbd163 := hrd154.bd
                obtain ⟨x_hrd154_k, hx_hrd154_k⟩ : ∃ x, [(⟨A, n, c⟩ : Hdr), (⟨A2, n2, c2⟩ : Hdr)][k]? = some x := ⟨_, List.getElem?_eq_getElem (by have := hrd154.len; omega)⟩
                refine wl_op rfl (op_indexAddr (j := k) rfl rfl und33 sz22 (hA160 (by omega)) rfl (by omega) rfl ?_)
                have hB164 : Below W150.heap.size W150 W155 := (below_step (Below.refl _ _) hE156)
                refine wl_op rfl (op_load1 (v := .slice x_hrd154_k.A x_hrd154_k.n x_hrd154_k.c) rfl agg22 (((hc161 k x_hrd154_k hx_hrd154_k).ext hB164).at (i := 0) rfl) rfl ?_)
                have hB165 : Below w.heap.size w W155 := (below_step (below_new (below_step (below_step (below_step (below_step hB89 hE95) hW123) hE135) hW148) hN152) hE156)
                obtain ⟨sx, hsx, hsab⟩ := hdr_pick (two_of hx_hrd154_k) (hs.ext (flat_lifts _) hB165) (hs2.ext (flat_lifts _) hB165)
                have hlen_sx := hsx.len
                refine wl_op rfl (op_assign rfl rfl ?_)
                refine (wl_done (then_norm ?_))
                refine wc_seq ?_
                refine wc_seq ?_
                refine wc_region ?_
                refine wl_op rfl (op_buildSlice (cs := #[.int .i64 8, .int .i64 9]) (e := 3) rfl (fun w => by kernel_rfl) rfl ?_)
                intro W166 b167 hN168
                have hb169 : W166.heap[b167]? = some (.cells #[.int .i64 8, .int .i64 9] 3 (0, 0)) := hN168.blk
                have hrd170 : RdI W166 (some ⟨b167, 0, none⟩) 2 [(8 : Int), (9 : Int)] := (rd_of_blk (enc := encI) [(8 : Int), (9 : Int)] hb169 (fun _ => rfl) rfl rfl rfl)
                refine wl_op rfl (op_len_slice rfl rfl und34 rfl rfl ?_)
                refine wl_op rfl (op_move rfl rfl ?_)
                refine (wl_done (then_norm ?_))
                refine wc_block ?_
                refine wc_loop (σ := Nat × World) (fun st_ => [(4, .bool false), (10, .slice A183 n184 c185), (17, .slice x_hrd154_k.A x_hrd154_k.n x_hrd154_k.c), (114, .slice (some ⟨b151, 0, none⟩) 2 2), (115, .int .i64 2), (116, .int .i64 (k : Int)), (117, .bool (decide ((k : Int) < 2))), (118, .pointer (some ⟨bs158, os159 + k * 1, none⟩)), (119, .slice x_hrd154_k.A x_hrd154_k.n x_hrd154_k.c), (120, .slice (some ⟨b167, 0, none⟩) 2 2), (121, .int .i64 2), (122, .int .i64 (st_.1 : Int))]) (fun st_ => st_.2) (fun st_ => (st_.1 ≤ 2) ∧ (Below W166.heap.size W166 st_.2)) (fun st_ => 2 - st_.1) (0, W166) ⟨(by first | omega | (dsimp only; omega)), (Below.refl _ _)⟩ ⟨rfl, rfl, rfl, rfl, rfl, rfl, rfl, rfl, rfl, rfl, rfl, rfl, trivial⟩ rfl ?_
                rintro ⟨j, W171⟩ ⟨hj, hE172⟩
                dsimp only at hj hE172
                refine wc_at [(4, .bool false), (10, .slice A183 n184 c185), (17, .slice x_hrd154_k.A x_hrd154_k.n x_hrd154_k.c), (114, .slice (some ⟨b151, 0, none⟩) 2 2), (115, .int .i64 2), (116, .int .i64 (k : Int)), (117, .bool (decide ((k : Int) < 2))), (118, .pointer (some ⟨bs158, os159 + k * 1, none⟩)), (119, .slice x_hrd154_k.A x_hrd154_k.n x_hrd154_k.c), (120, .slice (some ⟨b167, 0, none⟩) 2 2), (121, .int .i64 2), (122, .int .i64 (j : Int))] W171 ⟨rfl, rfl, rfl, rfl, rfl, rfl, rfl, rfl, rfl, rfl, rfl, rfl, trivial⟩ rfl ?_
                refine wc_seq ?_
                refine wc_region ?_
                refine wl_op rfl (op_lss rfl rfl rfl ?_)
                refine (wl_done (then_norm ?_))
                refine wc_seq ?_
                refine wc_cond (b := decide ((j : Int) < 2)) rfl (fun hc173 => ?_) (fun hc173 => ?_)
                · have hc173r := hc173
                  have hc173 := of_decide_eq_true hc173
                  refine wc_skip ?_
                  refine (then_norm ?_)
                  refine wc_seq ?_
                  refine wc_block ?_
                  refine wc_seq ?_
                  refine wc_region ?_
                  obtain ⟨bs174, os175, hA176, hc177⟩ := hrd170.flat
                  have hln178 := hrd170.len
                  have hbd179 := hrd170.bd
                  obtain ⟨x_8_Int_9_Int_j, hx_8_Int_9_Int_j⟩ : ∃ x, [(8 : Int), (9 : Int)][j]? = some x := ⟨_, List.getElem?_eq_getElem (by have := hrd170.len; omega)⟩
                  refine wl_op rfl (op_indexAddr (j := j) rfl rfl und34 sz3 (hA176 (by omega)) rfl (by omega) rfl ?_)
                  have hB180 : Below W166.heap.size W166 W171 := (below_step (Below.refl _ _) hE172)
                  refine wl_op rfl (op_load1 (v := .int .i64 x_8_Int_9_Int_j) rfl agg3 (((hc177 j x_8_Int_9_Int_j hx_8_Int_9_Int_j).ext hB180).at (i := 0) rfl) rfl ?_)
                  have hk89 := two_of hx_8_Int_9_Int_j
                  refine wl_op rfl (op_assign rfl rfl ?_)
                  refine (wl_done (then_norm ?_))
                  refine wc_seq ?_
                  refine wc_region ?_
                  refine wl_op rfl (op_move rfl rfl ?_)
                  refine wl_op rfl (op_move rfl rfl ?_)
                  have hB181 : Below W155.heap.size W155 W171 := (below_step (below_new (Below.refl _ _) hN168) hE172)
                  refine wl_op rfl (op_call ent13 rfl (Get_spec (hsx.ext (flat_lifts _) hB181)) rfl ?_)
                  rintro _ W182 ⟨rfl, hE183⟩
                  refine wl_op rfl (op_move rfl rfl ?_)
                  refine wl_op rfl (op_extract (v := .int .i64 (getV sx x_8_Int_9_Int_j)) rfl rfl rfl ?_)
                  refine wl_op rfl (op_extract (v := .int .i64 (getE sx x_8_Int_9_Int_j)) rfl rfl rfl ?_)
                  refine wl_op rfl (op_assign rfl rfl ?_)
                  refine wl_op rfl (op_assign rfl rfl ?_)
                  refine (wl_done (then_norm ?_))
                  refine wc_seq ?_
                  refine wc_region ?_
                  refine wl_op rfl (op_move rfl rfl ?_)
                  refine wl_op rfl (op_move rfl rfl ?_)
                  have hB184 : Below W87.heap.size W87 W182 := (below_step (below_step (below_new (below_step (below_new (below_step (below_step hB129 hE135) hW148) hN152) hE156) hN168) hE172) hE183)
                  refine wl_op rfl (op_call ent13 rfl (Get_spec (hp86.ext (flat_lifts _) hB184)) rfl ?_)
                  rintro _ W185 ⟨rfl, hE186⟩
                  refine wl_op rfl (op_move rfl rfl ?_)
                  refine wl_op rfl (op_extract (v := .int .i64 (getV ((agree a b).1) x_8_Int_9_Int_j)) rfl rfl rfl ?_)
                  refine wl_op rfl (op_extract (v := .int .i64 (getE ((agree a b).1) x_8_Int_9_Int_j)) rfl rfl rfl ?_)
                  refine wl_op rfl (op_assign rfl rfl ?_)
                  refine wl_op rfl (op_assign rfl rfl ?_)
                  refine (wl_done (then_norm ?_))
                  refine wc_seq ?_
                  refine wc_region ?_
                  refine wl_op rfl (op_move rfl rfl ?_)
                  refine wl_op rfl (op_move rfl rfl ?_)
                  refine wl_op rfl (op_call ent14 rfl (rStrength_spec) rfl ?_)
                  rintro _ W187 ⟨rfl, hE188⟩
                  refine wl_op rfl (op_move rfl rfl ?_)
                  refine wl_op rfl (op_move rfl rfl ?_)
                  refine wl_op rfl (op_call ent14 rfl (rStrength_spec) rfl ?_)
                  rintro _ W189 ⟨rfl, hE190⟩
                  refine wl_op rfl (op_lss rfl rfl rfl ?_)
                  refine (wl_done (then_norm ?_))
                  refine wc_cond (b := decide (strengthR x_8_Int_9_Int_j (getV ((agree a b).1) x_8_Int_9_Int_j) < strengthR x_8_Int_9_Int_j (getV sx x_8_Int_9_Int_j))) rfl (fun hc191 => ?_) (fun hc191 => ?_)
                  · have hc191r := hc191
                    have hc191 := of_decide_eq_true hc191
                    exact absurd hc191 (strong_ok hc125 hsab hk89)
                  · have hc191r := hc191
                    have hc191 := of_decide_eq_false hc191
                    refine wc_skip ?_
                    refine (block_norm (then_norm ?_))
                    refine wc_region ?_
                    refine wl_op rfl (op_add (r := ((j + 1 : Nat) : Int)) rfl rfl (by omega) (by omega) rfl ?_)
                    refine wl_op rfl (op_move rfl rfl ?_)
                    refine (wl_done (then_norm ?_))
                    have hB192 : Below W166.heap.size W166 W189 := (below_step (below_step (below_step (below_step hB180 hE183) hE186) hE188) hE190)
                    refine ⟨((j + 1), W189), ⟨(by first | omega | (dsimp only; omega)), hB192⟩, ?_, ⟨rfl, rfl, rfl, rfl, rfl, rfl, rfl, rfl, rfl, rfl, rfl, rfl, trivial⟩, rfl⟩
                    · dsimp only; omega
                · have hc173r := hc173
                  have hc173 := of_decide_eq_false hc173
                  refine wc_exit ?_
                  refine (then_exit (then_exit (block_here (then_norm ?_))))
                  refine wc_seq ?_
                  refine wc_region ?_
                  refine wl_op rfl (op_move rfl rfl ?_)
                  have hB193 : Below W155.heap.size W155 W171 := (below_step (below_new (Below.refl _ _) hN168) hE172)
                  refine wl_op rfl (op_call ent13 rfl (Get_spec (hsx.ext (flat_lifts _) hB193)) rfl ?_)
                  rintro _ W194 ⟨rfl, hE195⟩
                  refine wl_op rfl (op_move rfl rfl ?_)
                  refine wl_op rfl (op_extract (v := .int .i64 (getV sx 10)) rfl rfl rfl ?_)
                  refine wl_op rfl (op_extract (v := .int .i64 (getE sx 10)) rfl rfl rfl ?_)
                  refine wl_op rfl (op_assign rfl rfl ?_)
                  refine wl_op rfl (op_assign rfl rfl ?_)
                  refine (wl_done (then_norm ?_))
                  refine wc_seq ?_
                  refine wc_region ?_
                  refine wl_op rfl (op_move rfl rfl ?_)
                  have hB196 : Below W87.heap.size W87 W194 := (below_step (below_step (below_new (below_step (below_new (below_step (below_step hB129 hE135) hW148) hN152) hE156) hN168) hE172) hE195)
                  refine wl_op rfl (op_call ent13 rfl (Get_spec (hp86.ext (flat_lifts _) hB196)) rfl ?_)
                  rintro _ W197 ⟨rfl, hE198⟩
                  refine wl_op rfl (op_move rfl rfl ?_)
                  refine wl_op rfl (op_extract (v := .int .i64 (getV ((agree a b).1) 10)) rfl rfl rfl ?_)
                  refine wl_op rfl (op_extract (v := .int .i64 (getE ((agree a b).1) 10)) rfl rfl rfl ?_)
                  refine wl_op rfl (op_assign rfl rfl ?_)
                  refine wl_op rfl (op_assign rfl rfl ?_)
                  refine (wl_done (then_norm ?_))
                  refine wc_seq ?_
                  refine wc_text [(4, .bool false), (10, .slice A183 n184 c185), (17, .slice x_hrd154_k.A x_hrd154_k.n x_hrd154_k.c), (114, .slice (some ⟨b151, 0, none⟩) 2 2), (115, .int .i64 2), (116, .int .i64 (k : Int)), (117, .bool (decide ((k : Int) < 2))), (118, .pointer (some ⟨bs158, os159 + k * 1, none⟩)), (119, .slice x_hrd154_k.A x_hrd154_k.n x_hrd154_k.c), (120, .slice (some ⟨b167, 0, none⟩) 2 2), (121, .int .i64 2), (122, .int .i64 (j : Int)), (123, .bool (decide ((j : Int) < 2))), (147, .slice x_hrd154_k.A x_hrd154_k.n x_hrd154_k.c), (148, .tuple #[.int .i64 (getV sx 10), .int .i64 (getE sx 10)]), (146, .tuple #[.int .i64 (getV sx 10), .int .i64 (getE sx 10)]), (149, .int .i64 (getV sx 10)), (150, .int .i64 (getE sx 10)), (24, .int .i64 (getV sx 10)), (152, .slice A183 n184 c185), (153, .tuple #[.int .i64 (getV ((agree a b).1) 10), .int .i64 (getE ((agree a b).1) 10)]), (151, .tuple #[.int .i64 (getV ((agree a b).1) 10), .int .i64 (getE ((agree a b).1) 10)]), (154, .int .i64 (getV ((agree a b).1) 10)), (155, .int .i64 (getE ((agree a b).1) 10)), (26, .int .i64 (getV ((agree a b).1) 10))] ⟨rfl, rfl, rfl, rfl, rfl, rfl, rfl, rfl, rfl, rfl, rfl, rfl, rfl, rfl, rfl, rfl, rfl, rfl, rfl, rfl, rfl, rfl, rfl, rfl, rfl, trivial⟩ [fun v _ => v = .int .i64 (getV sx 10), fun v _ => v = .bool (!decide (getV sx 10 = 0)), fun v _ => v = .bool (!decide (getV sx 10 = 0)), fun v _ => v = (bif (!decide (getV sx 10 = 0)) then (.int .i64 (getV ((agree a b).1) 10)) else undef), fun v _ => v = (bif (!decide (getV sx 10 = 0)) then (.bool (decide (getV ((agree a b).1) 10 = 0))) else undef), fun v _ => v = (bif (!decide (getV sx 10 = 0)) then (.bool (decide (getV ((agree a b).1) 10 = 0))) else undef), fun v _ => v = (bif ((!decide (getV sx 10 = 0)) && (!(decide (getV ((agree a b).1) 10 = 0)))) then (.int .i64 (getV ((agree a b).1) 10)) else undef), fun v _ => v = (bif ((!decide (getV sx 10 = 0)) && (!(decide (getV ((agree a b).1) 10 = 0)))) then (.int .i64 (getV sx 10)) else undef), fun v _ => v = (bif ((!decide (getV sx 10 = 0)) && (!(decide (getV ((agree a b).1) 10 = 0)))) then (.bool (decide (getV sx 10 < getV ((agree a b).1) 10))) else undef), fun v _ => v = (bif (!decide (getV sx 10 = 0)) then (.bool ((decide (getV ((agree a b).1) 10 = 0)) || (decide (getV sx 10 < getV ((agree a b).1) 10)))) else undef), fun v _ => v = .bool ((!decide (getV sx 10 = 0)) && ((decide (getV ((agree a b).1) 10 = 0)) || (decide (getV sx 10 < getV ((agree a b).1) 10))))] [[], [0], [1], [2], [2, 3], [2, 4], [5], [5], [5, 6, 7], [2, 5, 8], [2, 9]] [0, 1, 2, 10] rfl rfl rfl ⟨fun _ _ _ _ h => h, fun _ _ _ _ h => h, fun _ _ _ _ h => h, fun _ _ _ _ h => h, fun _ _ _ _ h => h, fun _ _ _ _ h => h, fun _ _ _ _ h => h, fun _ _ _ _ h => h, fun _ _ _ _ h => h, fun _ _ _ _ h => h, fun _ _ _ _ h => h, trivial⟩ ⟨?_, ?_, ?_, ?_, ?_, ?_, ?_, ?_, ?_, ?_, ?_, trivial⟩ ?_
                  · intro W199 hW200
                    refine gather_nil ?_
                    refine opg_none rfl ?_
                    exact op_move rfl rfl ⟨told rfl rfl rfl, (Below.refl _ _)⟩
                  · intro W199 hW200
                    rintro _ rfl
                    refine gather_nil ?_
                    refine opg_none rfl ?_
                    exact op_neq rfl rfl rfl ⟨told rfl rfl rfl, (Below.refl _ _)⟩
                  · intro W199 hW200
                    rintro _ rfl
                    refine gather_nil ?_
                    refine opg_none rfl ?_
                    exact op_move rfl rfl ⟨told rfl rfl rfl, (Below.refl _ _)⟩
                  · intro W199 hW200
                    rintro _ rfl
                    refine gather_nil ?_
                    refine opg_t1 rfl rfl (fun hg201 => ?_) (fun h => by rw [h, cond_false])
                    exact op_move rfl rfl ⟨told rfl rfl (by rw [hg201, cond_true]), (Below.refl _ _)⟩
                  · intro W199 hW200
                    rintro _ rfl
                    intro v202 (hv203 : v202 = bif (!decide (getV sx 10 = 0)) then (.int .i64 (getV ((agree a b).1) 10)) else undef)
                    refine gather_nil ?_
                    refine opg_t1 rfl rfl (fun hg204 => ?_) (fun h => by rw [h, cond_false])
                    have hd205 := of_decide_eq_false (not_t hg204)
                    obtain rfl : v202 = .int .i64 (getV ((agree a b).1) 10) := by rw [hv203, hg204, cond_true]
                    exact op_eql rfl rfl rfl ⟨told rfl rfl (by rw [hg204, cond_true]), (Below.refl _ _)⟩
                  · intro W199 hW200
                    rintro _ rfl
                    intro v206 (hv207 : v206 = bif (!decide (getV sx 10 = 0)) then (.bool (decide (getV ((agree a b).1) 10 = 0))) else undef)
                    refine gather_nil ?_
                    refine opg_t1 rfl rfl (fun hg208 => ?_) (fun h => by rw [h, cond_false])
                    obtain rfl : v206 = .bool (decide (getV ((agree a b).1) 10 = 0)) := by rw [hv207, hg208, cond_true]
                    exact op_move rfl rfl ⟨told rfl rfl (by rw [hg208, cond_true]), (Below.refl _ _)⟩
                  · intro W199 hW200
                    intro v209 (hv210 : v209 = bif (!decide (getV sx 10 = 0)) then (.bool (decide (getV ((agree a b).1) 10 = 0))) else undef)
                    refine gather_nil ?_
                    refine opg_f rfl rfl hv210 (fun hg211 => ?_) (fun h => by rw [h, cond_false])
                    obtain rfl : v209 = .bool (decide (getV ((agree a b).1) 10 = 0)) := by rw [hv210, (and_l hg211), cond_true]
                    exact op_move rfl rfl ⟨told rfl rfl (by rw [hg211, cond_true]), (Below.refl _ _)⟩
                  · intro W199 hW200
                    intro v212 (hv213 : v212 = bif (!decide (getV sx 10 = 0)) then (.bool (decide (getV ((agree a b).1) 10 = 0))) else undef)
                    refine gather_nil ?_
                    refine opg_f rfl rfl hv213 (fun hg214 => ?_) (fun h => by rw [h, cond_false])
                    obtain rfl : v212 = .bool (decide (getV ((agree a b).1) 10 = 0)) := by rw [hv213, (and_l hg214), cond_true]
                    exact op_move rfl rfl ⟨told rfl rfl (by rw [hg214, cond_true]), (Below.refl _ _)⟩
                  · intro W199 hW200
                    intro v215 (hv216 : v215 = bif (!decide (getV sx 10 = 0)) then (.bool (decide (getV ((agree a b).1) 10 = 0))) else undef)
                    intro v217 (hv218 : v217 = bif ((!decide (getV sx 10 = 0)) && (!(decide (getV ((agree a b).1) 10 = 0)))) then (.int .i64 (getV ((agree a b).1) 10)) else undef)
                    intro v219 (hv220 : v219 = bif ((!decide (getV sx 10 = 0)) && (!(decide (getV ((agree a b).1) 10 = 0)))) then (.int .i64 (getV sx 10)) else undef)
                    refine gather_nil ?_
                    refine opg_f rfl rfl hv216 (fun hg221 => ?_) (fun h => by rw [h, cond_false])
                    have hd222 := of_decide_eq_false (not_t (and_l hg221))
                    have hd223 := of_decide_eq_false (not_t (and_r hg221))
                    obtain rfl : v215 = .bool (decide (getV ((agree a b).1) 10 = 0)) := by rw [hv216, (and_l hg221), cond_true]
                    obtain rfl : v217 = .int .i64 (getV ((agree a b).1) 10) := by rw [hv218, hg221, cond_true]
                    obtain rfl : v219 = .int .i64 (getV sx 10) := by rw [hv220, hg221, cond_true]
                    exact op_gtr rfl rfl rfl ⟨told rfl rfl (by rw [hg221, cond_true]), (Below.refl _ _)⟩
                  · intro W199 hW200
                    rintro _ rfl
                    intro v224 (hv225 : v224 = bif (!decide (getV sx 10 = 0)) then (.bool (decide (getV ((agree a b).1) 10 = 0))) else undef)
                    intro v226 (hv227 : v226 = bif ((!decide (getV sx 10 = 0)) && (!(decide (getV ((agree a b).1) 10 = 0)))) then (.bool (decide (getV sx 10 < getV ((agree a b).1) 10))) else undef)
                    refine gather_nil ?_
                    refine opg_t1 rfl rfl (fun hg228 => ?_) (fun h => by rw [h, cond_false])
                    obtain rfl : v224 = .bool (decide (getV ((agree a b).1) 10 = 0)) := by rw [hv225, hg228, cond_true]
                    exact op_or rfl rfl rfl (fun h => by rw [hv227, (and_i hg228 (not_i h)), cond_true]) rfl ⟨told rfl rfl (by rw [hg228, cond_true]), (Below.refl _ _)⟩
                  · intro W199 hW200
                    rintro _ rfl
                    intro v229 (hv230 : v229 = bif (!decide (getV sx 10 = 0)) then (.bool ((decide (getV ((agree a b).1) 10 = 0)) || (decide (getV sx 10 < getV ((agree a b).1) 10)))) else undef)
                    refine gather_nil ?_
                    refine opg_none rfl ?_
                    exact op_and rfl rfl rfl (fun h => by rw [hv230, h, cond_true]) rfl ⟨told rfl rfl rfl, (Below.refl _ _)⟩
                  intro W231 hW232
                  rintro _ rfl
                  rintro _ rfl
                  rintro _ rfl
                  rintro _ rfl
                  refine gather_nil ?_
                  refine (then_norm ?_)
                  refine wc_cond (b := (!decide (getV sx 10 = 0)) && ((decide (getV ((agree a b).1) 10 = 0)) || (decide (getV sx 10 < getV ((agree a b).1) 10)))) rfl (fun hc233 => ?_) (fun hc233 => ?_)
                  · exfalso
                    rw [limit_ok hc125 hsab] at hc233
                    cases hc233
                  · refine wc_skip ?_
                    refine (block_norm (then_norm ?_))
                    refine wc_region ?_
                    refine wl_op rfl (op_add (r := ((k + 1 : Nat) : Int)) rfl rfl (by omega) (by omega) rfl ?_)
                    refine wl_op rfl (op_move rfl rfl ?_)
                    refine (wl_done (then_norm ?_))
                    have hB234 : Below W150.heap.size W150 W231 := (below_step (below_step (below_step (below_step (below_new hB164 hN168) hE172) hE195) hE198) hW232)
                    refine ⟨((k + 1), W231), ⟨(by first | omega | (dsimp only; omega)), hB234⟩, ?_, ⟨rfl, rfl, rfl, rfl, rfl, trivial⟩, rfl⟩
                    · dsimp only; omega
              · have hc157r := hc157
                have hc157 := of_decide_eq_false hc157
                refine wc_exit ?_
                refine (then_exit (then_exit (block_here (then_norm ?_))))
                refine wc_seq ?_
                refine wc_region ?_
                refine wl_op rfl (op_call ent7 rfl (awake_spec) rfl ?_)
                rintro _ W235 ⟨rfl, hE236⟩
                refine wl_op rfl (op_assign rfl rfl ?_)
                refine (wl_done (then_norm ?_))
                refine WC.sub [(4, .bool true)] ⟨rfl, trivial⟩ ?_
                refine wc_ret ?_
                have hB237 : Below w.heap.size w W235 := (below_step (below_step (below_new (below_step (below_step (below_step (below_step hB89 hE95) hW123) hE135) hW148) hN152) hE156) hE236)
                refine ⟨[_], ⟨rfl, trivial⟩, ⟨?_, hB237⟩⟩
                exact rfl

end Go.Eng
