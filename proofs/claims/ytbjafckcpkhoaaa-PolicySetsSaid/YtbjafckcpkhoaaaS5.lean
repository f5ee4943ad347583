/- Lemmas for a law of the seat: what functions of the program do, each stated as a contract of its own (S5). -/
import Derived.Test.YtbjafckcpkhoaaaS4
import Derived.Test.YtbjafckcpkhoaaaEng
import Derived.Test.YtbjafckcpkhoaaaChecked
set_option linter.unusedVariables false
set_option maxRecDepth 100000
namespace Go.Eng
open Go.RowKit Go.Shelf Go.Proofs Pol

theorem ent67 : Enters Try.prog 67 := enters_of Try.func67 (by kernel_rfl) rfl

theorem wo_bad {s : List Pol} {q : Int} (h : (validSet s && !isB q) = true) : validSet s = true ∧ isB q = false := by simpa using h
theorem wo_good {s : List Pol} {q : Int} (h : (validSet s && !isB q) = false) : validSet s = false ∨ isB q = true := by
  cases h1 : validSet s <;> cases h2 : isB q <;> simp [h1, h2] at h ⊢
theorem wo_list {s : List Pol} {q : Int} (h : validSet s = false ∨ isB q = true) : withoutL s q = chosenL s (fun p => !decide (p.kind = q)) ∧ getE s q = chosenE s := by
  unfold withoutL chosenL getE chosenE
  rcases h with h | h
  · rw [h]; simp
  · rw [h]; cases validSet s <;> simp
theorem wo_list_bad {s : List Pol} {q : Int} (h : validSet s = true ∧ isB q = false) : withoutL s q = [] ∧ getE s q = 10 := by
  unfold withoutL getE; simp [h.1, h.2]

theorem Without_spec {w : World} {A : Option Addr} {n c : Nat} {s : List Pol} {q : Int} (hs : RdP w A n s) (hn : n ≤ 1000) : Ret Try.prog 32 #[.slice A n c, .int .i64 q] w (fun v w' => ∃ (A1 : Option Addr) (n1 c1 : Nat), v = .tuple #[.slice A1 n1 c1, .int .i64 (getE s q)] ∧ RdP w' A1 n1 (withoutL s q) ∧ Below w.heap.size w w') := by
  obtain ⟨bs1, os2, hA3, hc4⟩ := hs.flat
  have hln5 := hs.len
  have hbd6 := hs.bd
  have hlen_s := hs.len
  refine ret_of (args := [.slice A n c, .int .i64 q]) Try.func32 rfl Try.ntmps32 rfl (rs := [.tmp 4, .tmp 5]) rfl ?_
  refine wc_seq ?_
  refine wc_region ?_
  refine wl_op rfl (op_box rfl rfl ?_)
  intro W7 b8 hN9
  have hb10 : W7.heap[b8]? = some (.cells #[.int .i64 q] 3 (0, 0)) := hN9.blk
  refine wl_op rfl (op_assign rfl rfl ?_)
  refine wl_op rfl (op_assign rfl rfl ?_)
  refine (wl_done (then_norm ?_))
  refine wc_seq ?_
  refine wc_seq ?_
  refine wc_text [(0, .slice A n c), (3, .pointer (some ⟨b8, 0, none⟩)), (4, .slice none 0 0), (5, .int .i64 0)] ⟨rfl, rfl, rfl, rfl, trivial⟩ [fun v _ => v = .slice A n c, fun v _ => v = .bool (validSet s), fun v _ => v = .bool (validSet s), fun v _ => v = (bif (validSet s) then (.int .i64 q) else undef), fun v _ => v = (bif (validSet s) then (.bool (isB q)) else undef), fun v _ => v = (bif (validSet s) then (.bool (!(isB q))) else undef), fun v _ => v = .bool ((validSet s) && (!(isB q)))] [[], [0], [1], [2], [2, 3], [2, 4], [2, 5]] [6] rfl rfl rfl ⟨fun _ _ _ _ h => h, fun _ _ _ _ h => h, fun _ _ _ _ h => h, fun _ _ _ _ h => h, fun _ _ _ _ h => h, fun _ _ _ _ h => h, fun _ _ _ _ h => h, trivial⟩ ⟨?_, ?_, ?_, ?_, ?_, ?_, ?_, trivial⟩ ?_
  · intro W11 hW12
    refine gather_nil ?_
    refine opg_none rfl ?_
    exact op_move rfl rfl ⟨told rfl rfl rfl, (Below.refl _ _)⟩
  · intro W11 hW12
    rintro _ rfl
    refine gather_nil ?_
    refine opg_none rfl ?_
    have hB15 : Below w.heap.size w W11 := (below_step (below_new (Below.refl _ _) hN9) hW12)
    refine op_call ent27 rfl (ValidSet_spec (hs.ext (flat_lifts _) hB15)) rfl ?_
    rintro _ W16 ⟨rfl, hE17⟩
    exact ⟨told rfl rfl rfl, hE17⟩
  · intro W11 hW12
    rintro _ rfl
    refine gather_nil ?_
    refine opg_none rfl ?_
    exact op_move rfl rfl ⟨told rfl rfl rfl, (Below.refl _ _)⟩
  · intro W11 hW12
    rintro _ rfl
    refine gather_nil ?_
    refine opg_t1 rfl rfl (fun hg18 => ?_) (fun h => by rw [h, cond_false])
    have hb19 : W11.heap[b8]? = some (.cells #[.int .i64 q] 3 (0, 0)) := (blk_ext hb10 hW12)
    exact op_load1 (v := .int .i64 q) rfl agg3 (cell_blk hb19 rfl) rfl ⟨told rfl rfl (by rw [hg18, cond_true]), (Below.refl _ _)⟩
  · intro W11 hW12
    rintro _ rfl
    intro v20 (hv21 : v20 = bif (validSet s) then (.int .i64 q) else undef)
    refine gather_nil ?_
    refine opg_t1 rfl rfl (fun hg22 => ?_) (fun h => by rw [h, cond_false])
    obtain rfl : v20 = .int .i64 q := by rw [hv21, hg22, cond_true]
    refine op_call ent52 rfl (is_spec) rfl ?_
    rintro _ W23 ⟨rfl, hE24⟩
    exact ⟨told rfl rfl (by rw [hg22, cond_true]), hE24⟩
  · intro W11 hW12
    rintro _ rfl
    intro v25 (hv26 : v25 = bif (validSet s) then (.bool (isB q)) else undef)
    refine gather_nil ?_
    refine opg_t1 rfl rfl (fun hg27 => ?_) (fun h => by rw [h, cond_false])
    obtain rfl : v25 = .bool (isB q) := by rw [hv26, hg27, cond_true]
    exact op_not rfl rfl ⟨told rfl rfl (by rw [hg27, cond_true]), (Below.refl _ _)⟩
  · intro W11 hW12
    rintro _ rfl
    intro v28 (hv29 : v28 = bif (validSet s) then (.bool (!(isB q))) else undef)
    refine gather_nil ?_
    refine opg_none rfl ?_
    exact op_and rfl rfl rfl (fun h => by rw [hv29, h, cond_true]) rfl ⟨told rfl rfl rfl, (Below.refl _ _)⟩
  intro W30 hW31
  rintro _ rfl
  refine gather_nil ?_
  refine (then_norm ?_)
  refine wc_cond (b := (validSet s) && (!(isB q))) rfl (fun hc32 => ?_) (fun hc32 => ?_)
  · have hbad := wo_bad hc32
    refine wc_seq ?_
    refine wc_region ?_
    refine wl_op rfl (op_assign rfl rfl ?_)
    refine wl_op rfl (op_assign rfl rfl ?_)
    refine (wl_done (then_norm ?_))
    refine wc_ret ?_
    refine (then_ret ?_)
    have hB33 : Below w.heap.size w W30 := (below_step (below_new (Below.refl _ _) hN9) hW31)
    refine ⟨[_, _], ⟨rfl, rfl, trivial⟩, ⟨none, 0, 0, ?_, (by rw [(wo_list_bad hbad).1]; exact rd_nil _ _ _), hB33⟩⟩
    rw [(wo_list_bad hbad).2]
    rfl
  · have hgood := wo_list (wo_good hc32)
    refine wc_skip ?_
    refine (then_norm ?_)
    refine wc_seq ?_
    refine wc_region ?_
    refine wl_op rfl (op_move rfl rfl ?_)
    refine wl_op rfl (op_makeFunc rfl rfl rfl ?_)
    have hB34 : Below w.heap.size w W30 := (below_step (below_new (Below.refl _ _) hN9) hW31)
    have hb35 : W30.heap[b8]? = some (.cells #[.int .i64 q] 3 (0, 0)) := (blk_ext hb10 hW31)
    refine wl_op rfl (op_call ent57 rfl (chosen_spec (hs.ext (flat_lifts _) hB34) hn ent67 (fun W a b hv hm hW => Without1_spec (blk_ext hb35 hW)) (keep := (fun p => !decide (p.kind = q)))) rfl ?_)
    rintro _ W40 ⟨A136, n137, c138, rfl, hp39, hE41⟩
    refine wl_op rfl (op_extract (v := .slice A136 n137 c138) rfl rfl rfl ?_)
    refine wl_op rfl (op_extract (v := .int .i64 (chosenE s)) rfl rfl rfl ?_)
    refine wl_op rfl (op_assign rfl rfl ?_)
    refine wl_op rfl (op_assign rfl rfl ?_)
    refine (wl_done (then_norm ?_))
    refine WC.sub [(4, .slice A136 n137 c138), (5, .int .i64 (chosenE s))] ⟨rfl, rfl, trivial⟩ ?_
    refine wc_ret ?_
    have hB42 : Below w.heap.size w W40 := (below_step hB34 hE41)
    refine ⟨[_, _], ⟨rfl, rfl, trivial⟩, ⟨A136, n137, c138, ?_, (by rw [hgood.1]; exact hp39), hB42⟩⟩
    rw [hgood.2]
    rfl

theorem rWithout_spec {w : World} {A : Option Addr} {n c : Nat} {s : List Pol} {q : Int} (hs : RdP w A n s) (hn : n ≤ 1000) : Ret Try.prog 33 #[.slice A n c, .int .i64 q] w (fun v w' => ∃ (A1 : Option Addr) (n1 c1 : Nat), v = .tuple #[.slice A1 n1 c1, .int .i64 (getE s q)] ∧ RdP w' A1 n1 (withoutL s q) ∧ Below w.heap.size w w') := by
  obtain ⟨bs1, os2, hA3, hc4⟩ := hs.flat
  have hln5 := hs.len
  have hbd6 := hs.bd
  have hlen_s := hs.len
  refine ret_of (args := [.slice A n c, .int .i64 q]) Try.func33 rfl Try.ntmps33 rfl (rs := [.tmp 4, .tmp 5]) rfl ?_
  refine wc_seq ?_
  refine wc_region ?_
  refine wl_op rfl (op_assign rfl rfl ?_)
  refine wl_op rfl (op_assign rfl rfl ?_)
  refine (wl_done (then_norm ?_))
  refine wc_seq ?_
  refine wc_block ?_
  refine wc_seq ?_
  refine wc_region ?_
  refine wl_op rfl (op_move rfl rfl ?_)
  refine wl_op rfl (op_call ent28 rfl (rValidSet_spec hs) rfl ?_)
  rintro _ W7 ⟨rfl, hE8⟩
  refine wl_op rfl (op_not rfl rfl ?_)
  refine wl_op rfl (op_assign rfl rfl ?_)
  refine (wl_done (then_norm ?_))
  refine wc_cond (b := !(validSet s)) rfl (fun hc9 => ?_) (fun hc9 => ?_)
  · have hv : validSet s = false := by simpa using hc9
    refine wc_seq ?_
    refine wc_region ?_
    refine wl_op rfl (op_assign rfl rfl ?_)
    refine wl_op rfl (op_assign rfl rfl ?_)
    refine (wl_done (then_norm ?_))
    refine wc_ret ?_
    refine (block_ret (then_ret ?_))
    have hB10 : Below w.heap.size w W7 := (below_step (Below.refl _ _) hE8)
    refine ⟨[_, _], ⟨rfl, rfl, trivial⟩, ⟨none, 0, 0, ?_, (by rw [withoutL, if_neg (fun h => by rw [hv] at h; cases h.1)]; exact rd_nil _ _ _), hB10⟩⟩
    rw [getE, if_neg (by rw [hv]; decide)]
    rfl
  · have hv : validSet s = true := by simpa using hc9
    refine wc_seq ?_
    refine wc_region ?_
    refine wl_op rfl (op_move rfl rfl ?_)
    refine wl_op rfl (op_call ent64 rfl (Kind_spec) rfl ?_)
    rintro _ W11 ⟨rfl, hE12⟩
    refine wl_op rfl (op_not rfl rfl ?_)
    refine wl_op rfl (op_assign rfl rfl ?_)
    refine (wl_done (then_norm ?_))
    refine WC.sub [(0, .slice A n c), (1, .int .i64 q), (4, .slice none 0 0), (5, .int .i64 0), (13, .bool (!(isB q)))] ⟨rfl, rfl, rfl, rfl, rfl, trivial⟩ ?_
    refine wc_cond (b := !(isB q)) rfl (fun hc13 => ?_) (fun hc13 => ?_)
    · have hb : isB q = false := by simpa using hc13
      refine wc_seq ?_
      refine wc_region ?_
      refine wl_op rfl (op_assign rfl rfl ?_)
      refine wl_op rfl (op_assign rfl rfl ?_)
      refine (wl_done (then_norm ?_))
      refine wc_ret ?_
      refine (block_ret (then_ret ?_))
      have hB14 : Below w.heap.size w W11 := (below_step (below_step (Below.refl _ _) hE8) hE12)
      refine ⟨[_, _], ⟨rfl, rfl, trivial⟩, ⟨none, 0, 0, ?_, (by rw [(wo_list_bad ⟨hv, hb⟩).1]; exact rd_nil _ _ _), hB14⟩⟩
      rw [(wo_list_bad ⟨hv, hb⟩).2]
      rfl
    · have hb : isB q = true := by simpa using hc13
      refine wc_skip ?_
      refine (block_norm (then_norm ?_))
      refine wc_seq ?_
      refine wc_region ?_
      refine wl_op rfl (op_assign rfl rfl ?_)
      refine (wl_done (then_norm ?_))
      refine wc_seq ?_
      refine wc_seq ?_
      refine wc_region ?_
      refine wl_op rfl (op_move rfl rfl ?_)
      refine wl_op rfl (op_len_slice rfl rfl und22 rfl rfl ?_)
      refine wl_op rfl (op_move rfl rfl ?_)
      refine (wl_done (then_norm ?_))
      refine wc_block ?_
      refine wc_loop (σ := Nat × Value × World) (fun st_ => [(1, .int .i64 q), (4, .slice none 0 0), (5, .int .i64 0), (6, st_.2.1), (17, .slice A n c), (18, .int .i64 ((n : Nat) : Int)), (19, .int .i64 (st_.1 : Int))]) (fun st_ => st_.2.2) (fun st_ => (st_.1 ≤ n) ∧ (Own encP W11.heap.size 46 2 st_.2.2 st_.2.1 ((s.take st_.1).filter (fun p => !decide (p.kind = q)))) ∧ (Below W11.heap.size W11 st_.2.2)) (fun st_ => n - st_.1) (0, (.slice none 0 0), W11) ⟨(by first | omega | (dsimp only; omega)), (own_nil _ _ _ _ _), (Below.refl _ _)⟩ ⟨rfl, rfl, rfl, rfl, rfl, rfl, rfl, trivial⟩ rfl ?_
      rintro ⟨k, v, W15⟩ ⟨hk1, hown, hE16⟩
      dsimp only at hk1 hown hE16
      refine wc_at [(1, .int .i64 q), (4, .slice none 0 0), (5, .int .i64 0), (6, v), (17, .slice A n c), (18, .int .i64 ((n : Nat) : Int)), (19, .int .i64 (k : Int))] W15 ⟨rfl, rfl, rfl, rfl, rfl, rfl, rfl, trivial⟩ rfl ?_
      refine wc_seq ?_
      refine wc_region ?_
      refine wl_op rfl (op_lss rfl rfl rfl ?_)
      refine (wl_done (then_norm ?_))
      refine wc_seq ?_
      refine wc_cond (b := decide ((k : Int) < ((n : Nat) : Int))) rfl (fun hc17 => ?_) (fun hc17 => ?_)
      · have hc17r := hc17
        have hc17 := of_decide_eq_true hc17
        refine wc_skip ?_
        refine (then_norm ?_)
        refine wc_seq ?_
        refine wc_block ?_
        refine wc_seq ?_
        refine wc_region ?_
        obtain ⟨x_s_k, hx_s_k⟩ : ∃ x, s[k]? = some x := ⟨_, List.getElem?_eq_getElem (by have := hs.len; omega)⟩
        refine wl_op rfl (op_indexAddr (j := k) rfl rfl und22 sz46 (hA3 (by omega)) rfl (by omega) rfl ?_)
        have hB18 : Below w.heap.size w W15 := (below_step (below_step (below_step (Below.refl _ _) hE8) hE12) hE16)
        refine wl_op rfl (op_loadN (vs := [.int .i64 x_s_k.kind, .int .i64 x_s_k.val]) rfl agg46 sz46 rfl ((hc4 k x_s_k hx_s_k).ext hB18) rfl ?_)
        refine wl_op rfl (op_alloc zero46 rfl ?_)
        intro W19 b20 hN21
        have hb22 : W19.heap[b20]? = some (.cells #[.int .i64 0, .int .i64 0] 46 (0, 0)) := hN21.blk
        refine wl_op rfl (op_storeW rfl rfl sz46 hb22 rfl rfl ?_)
        intro W23 hP24 hb25
        have hb25 : W23.heap[b20]? = some (.cells #[.int .i64 x_s_k.kind, .int .i64 x_s_k.val] 46 (0, 0)) := hb25
        refine (wl_done (then_norm ?_))
        refine wc_seq ?_
        refine wc_region ?_
        refine wl_op rfl (op_fieldAddr rfl fa46_0 rfl ?_)
        refine wl_op rfl (op_load1 (v := .int .i64 x_s_k.kind) rfl agg3 (cell_blk hb25 rfl) rfl ?_)
        refine wl_op rfl (op_move rfl rfl ?_)
        refine wl_op rfl (op_neq rfl rfl rfl ?_)
        refine (wl_done (then_norm ?_))
        refine wc_cond (b := !decide (x_s_k.kind = q)) rfl (fun hc26 => ?_) (fun hc26 => ?_)
        · have hc26r := hc26
          have hc26 := of_decide_eq_false (not_t hc26)
          have hkeep : (fun p : Pol => !decide (p.kind = q)) x_s_k = true := hc26r
          refine wc_region ?_
          refine wl_op rfl (op_move rfl rfl ?_)
          refine wl_op rfl (op_loadN (vs := [.int .i64 x_s_k.kind, .int .i64 x_s_k.val]) rfl agg46 sz46 rfl (cells_blk hb25) rfl ?_)
          refine wl_op rfl (op_buildSlice (cs := #[.int .i64 x_s_k.kind, .int .i64 x_s_k.val]) (e := 46) rfl (fun w => by kernel_rfl) rfl ?_)
          intro W27 b28 hN29
          have hb30 : W27.heap[b28]? = some (.cells #[.int .i64 x_s_k.kind, .int .i64 x_s_k.val] 46 (0, 0)) := hN29.blk
          have hB36 : Below W11.heap.size W11 W15 := (below_step (Below.refl _ _) hE16)
          have hB37 : Below W11.heap.size W11 W27 := (below_new (hP24.below (below_new (below_step (Below.refl _ _) hE16) hN21) (le_new hB36 hN21)) hN29)
          refine wl_op rfl (op_appendP (enc := encP) (⟨x_s_k.kind, x_s_k.val⟩ : Pol) rfl rfl app22 rfl rfl (Own.ext (own_put (Own.ext hown hN21.ext) hP24 (own_ne_new hown hN21)) hN29.ext) (cells_blk hb30) rfl rfl (by have := filter_take_le s k (fun p => !decide (p.kind = q)); omega) (by have := filter_take_le s k (fun p => !decide (p.kind = q)); omega) hB37.size rfl ?_)
          intro v31 W32 ho33 hg34 hob35
          refine wl_op rfl (op_assign rfl rfl ?_)
          refine (wl_done (block_norm (then_norm ?_)))
          refine wc_region ?_
          refine wl_op rfl (op_add (r := ((k + 1 : Nat) : Int)) rfl rfl (by omega) (by omega) rfl ?_)
          refine wl_op rfl (op_move rfl rfl ?_)
          refine (wl_done (then_norm ?_))
          have hB38 : Below W11.heap.size W11 W32 := (below_grown hB37 (Own.ext (own_put (Own.ext hown hN21.ext) hP24 (own_ne_new hown hN21)) hN29.ext) hg34 (Nat.le_refl _))
          refine ⟨((k + 1), v31, W32), ⟨(by first | omega | (dsimp only; omega)), (by dsimp only; rw [take_filter_t hx_s_k hkeep]; exact ho33), hB38⟩, ?_, ⟨rfl, rfl, rfl, rfl, rfl, rfl, rfl, trivial⟩, rfl⟩
          · dsimp only; omega
        · have hc26r := hc26
          have hc26 := of_decide_eq_true (not_f hc26)
          have hkeep : (fun p : Pol => !decide (p.kind = q)) x_s_k = false := hc26r
          refine wc_skip ?_
          refine (block_norm (then_norm ?_))
          refine wc_region ?_
          refine wl_op rfl (op_add (r := ((k + 1 : Nat) : Int)) rfl rfl (by omega) (by omega) rfl ?_)
          refine wl_op rfl (op_move rfl rfl ?_)
          refine (wl_done (then_norm ?_))
          have hB39 : Below W11.heap.size W11 W15 := (below_step (Below.refl _ _) hE16)
          have hB40 : Below W11.heap.size W11 W23 := (hP24.below (below_new (below_step (Below.refl _ _) hE16) hN21) (le_new hB39 hN21))
          refine ⟨((k + 1), v, W23), ⟨(by first | omega | (dsimp only; omega)), (by dsimp only; rw [take_filter_f hx_s_k hkeep]; exact (own_put (Own.ext hown hN21.ext) hP24 (own_ne_new hown hN21))), hB40⟩, ?_, ⟨rfl, rfl, rfl, rfl, rfl, rfl, rfl, trivial⟩, rfl⟩
          · dsimp only; omega
      · have hc17r := hc17
        have hc17 := of_decide_eq_false hc17
        refine wc_exit ?_
        refine (then_exit (then_exit (block_here (then_norm ?_))))
        refine wc_seq ?_
        refine wc_region ?_
        refine wl_op rfl (op_move rfl rfl ?_)
        refine wl_op rfl (op_assign rfl rfl ?_)
        refine wl_op rfl (op_assign rfl rfl ?_)
        refine (wl_done (then_norm ?_))
        refine WC.sub [(4, v), (5, .int .i64 0)] ⟨rfl, rfl, trivial⟩ ?_
        refine wc_ret ?_
        have hB41 : Below w.heap.size w W15 := (below_step (below_step (below_step (Below.refl _ _) hE8) hE12) hE16)
        obtain ⟨A42, n43, c44, hv45, hr46, hn47, hnc48⟩ := rd_of_OwnC hown (fun _ => rfl) (by have := filter_take_le s k (fun p => !decide (p.kind = q)); omega)
        subst hv45
        have hkn : s.take k = s := List.take_of_length_le (by omega)
        refine ⟨[_, _], ⟨rfl, rfl, trivial⟩, ⟨A42, n43, c44, ?_, (by have h := hr46; rw [hkn] at h; rw [withoutL, if_pos ⟨hv, hb⟩]; exact h), hB41⟩⟩
        rw [getE, if_pos hv, if_pos hb]
        rfl

theorem one_valid {p : Pol} : validSet [p] = validB p := by
  show (List.range 1).all (okAt [p]) = _
  simp [List.range_succ, okAt]
def rPutL (s : List Pol) (p : Pol) : List Pol := rOverR s [p]
theorem put_eq (s : List Pol) (p : Pol) : putL s p = rPutL s p ∧ putE s p = overE s [p] := by
  unfold putL putE rPutL
  rw [over_eq]
  cases h : validB p with
  | true => simp
  | false =>
    have : ¬ (validSet s = true ∧ validSet [p] = true) := by rw [one_valid, h]; simp
    rw [rOverR, overE, if_neg this, if_neg this]; simp

theorem Put_spec {w : World} {A : Option Addr} {n c : Nat} {s : List Pol} {a b : Int} (hs : RdP w A n s) (hc : n ≤ c) (hn : n ≤ 1000) : Ret Try.prog 30 #[.slice A n c, .agg #[.int .i64 a, .int .i64 b]] w (fun v w' => ∃ (A1 : Option Addr) (n1 c1 : Nat), v = .tuple #[.slice A1 n1 c1, .int .i64 (putE s ⟨a, b⟩)] ∧ RdP w' A1 n1 (putL s ⟨a, b⟩) ∧ Below w.heap.size w w') := by
  obtain ⟨bs1, os2, hA3, hc4⟩ := hs.flat
  have hln5 := hs.len
  have hbd6 := hs.bd
  have hlen_s := hs.len
  refine ret_of (args := [.slice A n c, .agg #[.int .i64 a, .int .i64 b]]) Try.func30 rfl Try.ntmps30 rfl (rs := [.tmp 4, .tmp 5]) rfl ?_
  refine wc_seq ?_
  refine wc_region ?_
  refine wl_op rfl (op_box rfl rfl ?_)
  intro W7 b8 hN9
  have hb10 : W7.heap[b8]? = some (.cells #[.int .i64 a, .int .i64 b] 46 (0, 0)) := hN9.blk
  refine wl_op rfl (op_assign rfl rfl ?_)
  refine wl_op rfl (op_assign rfl rfl ?_)
  refine (wl_done (then_norm ?_))
  refine wc_seq ?_
  refine wc_seq ?_
  refine wc_region ?_
  refine wl_op rfl (op_loadN (vs := [.int .i64 a, .int .i64 b]) rfl agg46 sz46 rfl (cells_blk hb10) rfl ?_)
  refine wl_op rfl (op_call ent25 rfl (Valid_spec) rfl ?_)
  rintro _ W11 ⟨rfl, hE12⟩
  refine wl_op rfl (op_not rfl rfl ?_)
  refine (wl_done (then_norm ?_))
  refine wc_cond (b := !(validB ⟨a, b⟩)) rfl (fun hc13 => ?_) (fun hc13 => ?_)
  · have hv : validB ⟨a, b⟩ = false := by simpa using hc13
    refine wc_seq ?_
    refine wc_region ?_
    refine wl_op rfl (op_assign rfl rfl ?_)
    refine wl_op rfl (op_assign rfl rfl ?_)
    refine (wl_done (then_norm ?_))
    refine wc_ret ?_
    refine (then_ret ?_)
    have hB14 : Below w.heap.size w W11 := (below_step (below_new (Below.refl _ _) hN9) hE12)
    refine ⟨[_, _], ⟨rfl, rfl, trivial⟩, ⟨none, 0, 0, ?_, (by rw [putL, if_neg (by rw [hv]; decide)]; exact rd_nil _ _ _), hB14⟩⟩
    rw [putE, if_neg (by rw [hv]; decide)]
    rfl
  · have hv : validB ⟨a, b⟩ = true := by simpa using hc13
    refine wc_skip ?_
    refine (then_norm ?_)
    refine wc_seq ?_
    refine wc_region ?_
    refine wl_op rfl (op_move rfl rfl ?_)
    have hb15 : W11.heap[b8]? = some (.cells #[.int .i64 a, .int .i64 b] 46 (0, 0)) := (blk_ext hb10 hE12)
    refine wl_op rfl (op_loadN (vs := [.int .i64 a, .int .i64 b]) rfl agg46 sz46 rfl (cells_blk hb15) rfl ?_)
    refine wl_op rfl (op_buildSlice (cs := #[.int .i64 a, .int .i64 b]) (e := 46) rfl (fun w => by kernel_rfl) rfl ?_)
    intro W16 b17 hN18
    have hb19 : W16.heap[b17]? = some (.cells #[.int .i64 a, .int .i64 b] 46 (0, 0)) := hN18.blk
    have hB20 : Below w.heap.size w W16 := (below_new (below_step (below_new (Below.refl _ _) hN9) hE12) hN18)
    refine wl_op rfl (op_call ent15 rfl (Over_spec (hs.ext (flat_lifts _) hB20) (rd_of_blk (enc := encP) [(⟨a, b⟩ : Pol)] hb19 (fun _ => rfl) rfl rfl rfl) (by omega) (by omega) (by omega) (by omega)) rfl ?_)
    rintro _ W26 ⟨A121, n122, c123, rfl, hp24, hp25, hE27⟩
    refine wl_op rfl (op_extract (v := .slice A121 n122 c123) rfl rfl rfl ?_)
    refine wl_op rfl (op_extract (v := .int .i64 (overE s [(⟨a, b⟩ : Pol)])) rfl rfl rfl ?_)
    refine wl_op rfl (op_assign rfl rfl ?_)
    refine wl_op rfl (op_assign rfl rfl ?_)
    refine (wl_done (then_norm ?_))
    refine WC.sub [(4, .slice A121 n122 c123), (5, .int .i64 (overE s [(⟨a, b⟩ : Pol)]))] ⟨rfl, rfl, trivial⟩ ?_
    refine wc_ret ?_
    have hB28 : Below w.heap.size w W26 := (below_step hB20 hE27)
    refine ⟨[_, _], ⟨rfl, rfl, trivial⟩, ⟨A121, n122, c123, ?_, (by rw [putL, if_pos hv]; exact hp24), hB28⟩⟩
    rw [putE, if_pos hv]
    rfl

theorem rPut_spec {w : World} {A : Option Addr} {n c : Nat} {s : List Pol} {a b : Int} (hs : RdP w A n s) (hn : n ≤ 1000) : Ret Try.prog 31 #[.slice A n c, .agg #[.int .i64 a, .int .i64 b]] w (fun v w' => ∃ (A1 : Option Addr) (n1 c1 : Nat), v = .tuple #[.slice A1 n1 c1, .int .i64 (overE s [⟨a, b⟩])] ∧ RdP w' A1 n1 (rPutL s ⟨a, b⟩) ∧ Below w.heap.size w w') := by
  obtain ⟨bs1, os2, hA3, hc4⟩ := hs.flat
  have hln5 := hs.len
  have hbd6 := hs.bd
  have hlen_s := hs.len
  refine ret_of (args := [.slice A n c, .agg #[.int .i64 a, .int .i64 b]]) Try.func31 rfl Try.ntmps31 rfl (rs := [.tmp 4, .tmp 5]) rfl ?_
  refine wc_seq ?_
  refine wc_region ?_
  refine wl_op rfl (op_box rfl rfl ?_)
  intro W7 b8 hN9
  have hb10 : W7.heap[b8]? = some (.cells #[.int .i64 a, .int .i64 b] 46 (0, 0)) := hN9.blk
  refine wl_op rfl (op_assign rfl rfl ?_)
  refine wl_op rfl (op_assign rfl rfl ?_)
  refine (wl_done (then_norm ?_))
  refine wc_seq ?_
  refine wc_region ?_
  refine wl_op rfl (op_move rfl rfl ?_)
  refine wl_op rfl (op_loadN (vs := [.int .i64 a, .int .i64 b]) rfl agg46 sz46 rfl (cells_blk hb10) rfl ?_)
  refine wl_op rfl (op_buildSlice (cs := #[.int .i64 a, .int .i64 b]) (e := 46) rfl (fun w => by kernel_rfl) rfl ?_)
  intro W11 b12 hN13
  have hb14 : W11.heap[b12]? = some (.cells #[.int .i64 a, .int .i64 b] 46 (0, 0)) := hN13.blk
  have hB15 : Below w.heap.size w W11 := (below_new (below_new (Below.refl _ _) hN9) hN13)
  refine wl_op rfl (op_call ent16 rfl (rOver_spec (hs.ext (flat_lifts _) hB15) (rd_of_blk (enc := encP) [(⟨a, b⟩ : Pol)] hb14 (fun _ => rfl) rfl rfl rfl) (by omega) (by omega)) rfl ?_)
  rintro _ W21 ⟨A116, n117, c118, rfl, hp19, hp20, hE22⟩
  refine wl_op rfl (op_extract (v := .slice A116 n117 c118) rfl rfl rfl ?_)
  refine wl_op rfl (op_extract (v := .int .i64 (overE s [(⟨a, b⟩ : Pol)])) rfl rfl rfl ?_)
  refine wl_op rfl (op_assign rfl rfl ?_)
  refine wl_op rfl (op_assign rfl rfl ?_)
  refine (wl_done (then_norm ?_))
  refine WC.sub [(4, .slice A116 n117 c118), (5, .int .i64 (overE s [(⟨a, b⟩ : Pol)]))] ⟨rfl, rfl, trivial⟩ ?_
  refine wc_ret ?_
  have hB23 : Below w.heap.size w W21 := (below_step hB15 hE22)
  refine ⟨[_, _], ⟨rfl, rfl, trivial⟩, ⟨A116, n117, c118, ?_, hp19, hB23⟩⟩
  exact rfl

end Go.Eng

set_option linter.unusedVariables false
set_option maxRecDepth 100000
namespace Go.Eng
open Go.RowKit Go.Shelf Go.Proofs Pol



theorem part_ad {a : List Pol} (ha : validSet a = true) : a.filter (fun p => (decide (1 ≤ p.kind)) && (decide (p.kind ≤ 7))) = chosenL a keepAd := by
  unfold chosenL
  rw [if_pos ha]
  refine List.filter_congr fun p hp => ?_
  have := (valid_kind (mem_valid ha hp))
  rw [Bool.eq_iff_iff]; simp; omega
theorem plain_ch {a : List Pol} (ha : validSet a = true) : a.filter (fun p => !decide (p.val = valueOf [] p.kind)) = chosenL a keepPlain := by
  unfold chosenL; rw [if_pos ha]; rfl
theorem no_chosen {a : List Pol} (keep : Pol → Bool) (h : validSet a = false) : chosenL a keep = [] := by unfold chosenL; rw [h]; rfl

theorem rAdapters_spec {w : World} {A : Option Addr} {n c : Nat} {s : List Pol} (hs : RdP w A n s) (hn : n ≤ 1000) : Ret Try.prog 35 #[.slice A n c] w (fun v w' => ∃ (A1 : Option Addr) (n1 c1 : Nat), v = .tuple #[.slice A1 n1 c1, .int .i64 (chosenE s)] ∧ RdP w' A1 n1 (chosenL s keepAd) ∧ Below w.heap.size w w') := by
  obtain ⟨bs1, os2, hA3, hc4⟩ := hs.flat
  have hln5 := hs.len
  have hbd6 := hs.bd
  have hlen_s := hs.len
  refine ret_of (args := [.slice A n c]) Try.func35 rfl Try.ntmps35 rfl (rs := [.tmp 2, .tmp 3]) rfl ?_
  refine wc_seq ?_
  refine wc_region ?_
  refine wl_op rfl (op_assign rfl rfl ?_)
  refine wl_op rfl (op_assign rfl rfl ?_)
  refine (wl_done (then_norm ?_))
  refine wc_seq ?_
  refine wc_seq ?_
  refine wc_region ?_
  refine wl_op rfl (op_move rfl rfl ?_)
  refine wl_op rfl (op_call ent28 rfl (rValidSet_spec hs) rfl ?_)
  rintro _ W7 ⟨rfl, hE8⟩
  refine wl_op rfl (op_not rfl rfl ?_)
  refine (wl_done (then_norm ?_))
  refine wc_cond (b := !(validSet s)) rfl (fun hc9 => ?_) (fun hc9 => ?_)
  · have hv : validSet s = false := by simpa using hc9
    refine wc_seq ?_
    refine wc_region ?_
    refine wl_op rfl (op_assign rfl rfl ?_)
    refine wl_op rfl (op_assign rfl rfl ?_)
    refine (wl_done (then_norm ?_))
    refine wc_ret ?_
    refine (then_ret ?_)
    have hB10 : Below w.heap.size w W7 := (below_step (Below.refl _ _) hE8)
    refine ⟨[_, _], ⟨rfl, rfl, trivial⟩, ⟨none, 0, 0, ?_, (by rw [no_chosen _ hv]; exact rd_nil _ _ _), hB10⟩⟩
    rw [chosenE, if_neg (by rw [hv]; decide)]
    rfl
  · have hv : validSet s = true := by simpa using hc9
    refine wc_skip ?_
    refine (then_norm ?_)
    refine wc_seq ?_
    refine wc_region ?_
    refine wl_op rfl (op_move rfl rfl ?_)
    have hB11 : Below w.heap.size w W7 := (below_step (Below.refl _ _) hE8)
    refine wl_op rfl (op_call ent47 rfl (rpart_spec (hs.ext (flat_lifts _) hB11) (by omega)) rfl ?_)
    rintro _ W16 ⟨A112, n113, c114, rfl, hp15, hE17⟩
    rw [part_ad hv] at hp15
    refine wl_op rfl (op_assign rfl rfl ?_)
    refine wl_op rfl (op_assign rfl rfl ?_)
    refine (wl_done (then_norm ?_))
    refine WC.sub [(2, .slice A112 n113 c114), (3, .int .i64 0)] ⟨rfl, rfl, trivial⟩ ?_
    refine wc_ret ?_
    have hB18 : Below w.heap.size w W16 := (below_step hB11 hE17)
    refine ⟨[_, _], ⟨rfl, rfl, trivial⟩, ⟨A112, n113, c114, ?_, hp15, hB18⟩⟩
    rw [chosenE, if_pos hv]
    rfl

theorem rCalls_spec {w : World} {A : Option Addr} {n c : Nat} {s : List Pol} (hs : RdP w A n s) (hn : n ≤ 1000) : Ret Try.prog 37 #[.slice A n c] w (fun v w' => ∃ (A1 : Option Addr) (n1 c1 : Nat), v = .tuple #[.slice A1 n1 c1, .int .i64 (chosenE s)] ∧ RdP w' A1 n1 (chosenL s keepCalls) ∧ Below w.heap.size w w') := by
  obtain ⟨bs1, os2, hA3, hc4⟩ := hs.flat
  have hln5 := hs.len
  have hbd6 := hs.bd
  have hlen_s := hs.len
  refine ret_of (args := [.slice A n c]) Try.func37 rfl Try.ntmps37 rfl (rs := [.tmp 2, .tmp 3]) rfl ?_
  refine wc_seq ?_
  refine wc_region ?_
  refine wl_op rfl (op_assign rfl rfl ?_)
  refine wl_op rfl (op_assign rfl rfl ?_)
  refine (wl_done (then_norm ?_))
  refine wc_seq ?_
  refine wc_seq ?_
  refine wc_region ?_
  refine wl_op rfl (op_move rfl rfl ?_)
  refine wl_op rfl (op_call ent28 rfl (rValidSet_spec hs) rfl ?_)
  rintro _ W7 ⟨rfl, hE8⟩
  refine wl_op rfl (op_not rfl rfl ?_)
  refine (wl_done (then_norm ?_))
  refine wc_cond (b := !(validSet s)) rfl (fun hc9 => ?_) (fun hc9 => ?_)
  · have hv : validSet s = false := by simpa using hc9
    refine wc_seq ?_
    refine wc_region ?_
    refine wl_op rfl (op_assign rfl rfl ?_)
    refine wl_op rfl (op_assign rfl rfl ?_)
    refine (wl_done (then_norm ?_))
    refine wc_ret ?_
    refine (then_ret ?_)
    have hB10 : Below w.heap.size w W7 := (below_step (Below.refl _ _) hE8)
    refine ⟨[_, _], ⟨rfl, rfl, trivial⟩, ⟨none, 0, 0, ?_, (by rw [no_chosen _ hv]; exact rd_nil _ _ _), hB10⟩⟩
    rw [chosenE, if_neg (by rw [hv]; decide)]
    rfl
  · have hv : validSet s = true := by simpa using hc9
    refine wc_skip ?_
    refine (then_norm ?_)
    refine wc_seq ?_
    refine wc_region ?_
    refine wl_op rfl (op_move rfl rfl ?_)
    have hB11 : Below w.heap.size w W7 := (below_step (Below.refl _ _) hE8)
    refine wl_op rfl (op_call ent47 rfl (rpart_spec (hs.ext (flat_lifts _) hB11) (by omega)) rfl ?_)
    rintro _ W16 ⟨A112, n113, c114, rfl, hp15, hE17⟩
    rw [part_calls hv] at hp15
    refine wl_op rfl (op_assign rfl rfl ?_)
    refine wl_op rfl (op_assign rfl rfl ?_)
    refine (wl_done (then_norm ?_))
    refine WC.sub [(2, .slice A112 n113 c114), (3, .int .i64 0)] ⟨rfl, rfl, trivial⟩ ?_
    refine wc_ret ?_
    have hB18 : Below w.heap.size w W16 := (below_step hB11 hE17)
    refine ⟨[_, _], ⟨rfl, rfl, trivial⟩, ⟨A112, n113, c114, ?_, hp15, hB18⟩⟩
    rw [chosenE, if_pos hv]
    rfl

theorem rPlain_spec {w : World} {A : Option Addr} {n c : Nat} {s : List Pol} (hs : RdP w A n s) (hn : n ≤ 1000) : Ret Try.prog 38 #[.slice A n c] w (fun v w' => ∃ (A1 : Option Addr) (n1 c1 : Nat), v = .tuple #[.slice A1 n1 c1, .int .i64 (chosenE s)] ∧ RdP w' A1 n1 (chosenL s keepPlain) ∧ Below w.heap.size w w') := by
  obtain ⟨bs1, os2, hA3, hc4⟩ := hs.flat
  have hln5 := hs.len
  have hbd6 := hs.bd
  have hlen_s := hs.len
  refine ret_of (args := [.slice A n c]) Try.func38 rfl Try.ntmps38 rfl (rs := [.tmp 2, .tmp 3]) rfl ?_
  refine wc_seq ?_
  refine wc_region ?_
  refine wl_op rfl (op_assign rfl rfl ?_)
  refine wl_op rfl (op_assign rfl rfl ?_)
  refine (wl_done (then_norm ?_))
  refine wc_seq ?_
  refine wc_seq ?_
  refine wc_region ?_
  refine wl_op rfl (op_move rfl rfl ?_)
  refine wl_op rfl (op_call ent28 rfl (rValidSet_spec hs) rfl ?_)
  rintro _ W7 ⟨rfl, hE8⟩
  refine wl_op rfl (op_not rfl rfl ?_)
  refine (wl_done (then_norm ?_))
  refine wc_cond (b := !(validSet s)) rfl (fun hc9 => ?_) (fun hc9 => ?_)
  · have hv : validSet s = false := by simpa using hc9
    refine wc_seq ?_
    refine wc_region ?_
    refine wl_op rfl (op_assign rfl rfl ?_)
    refine wl_op rfl (op_assign rfl rfl ?_)
    refine (wl_done (then_norm ?_))
    refine wc_ret ?_
    refine (then_ret ?_)
    have hB10 : Below w.heap.size w W7 := (below_step (Below.refl _ _) hE8)
    refine ⟨[_, _], ⟨rfl, rfl, trivial⟩, ⟨none, 0, 0, ?_, (by rw [no_chosen _ hv]; exact rd_nil _ _ _), hB10⟩⟩
    rw [chosenE, if_neg (by rw [hv]; decide)]
    rfl
  · have hv : validSet s = true := by simpa using hc9
    refine wc_skip ?_
    refine (then_norm ?_)
    refine wc_seq ?_
    refine wc_region ?_
    refine wl_op rfl (op_move rfl rfl ?_)
    have hB11 : Below w.heap.size w W7 := (below_step (Below.refl _ _) hE8)
    refine wl_op rfl (op_call ent51 rfl (rplain_spec (hs.ext (flat_lifts _) hB11) (by omega)) rfl ?_)
    rintro _ W16 ⟨A112, n113, c114, rfl, hp15, hE17⟩
    rw [plain_ch hv] at hp15
    refine wl_op rfl (op_assign rfl rfl ?_)
    refine wl_op rfl (op_assign rfl rfl ?_)
    refine (wl_done (then_norm ?_))
    refine WC.sub [(2, .slice A112 n113 c114), (3, .int .i64 0)] ⟨rfl, rfl, trivial⟩ ?_
    refine wc_ret ?_
    have hB18 : Below w.heap.size w W16 := (below_step hB11 hE17)
    refine ⟨[_, _], ⟨rfl, rfl, trivial⟩, ⟨A112, n113, c114, ?_, hp15, hB18⟩⟩
    rw [chosenE, if_pos hv]
    rfl

end Go.Eng

set_option linter.unusedVariables false
set_option maxRecDepth 100000
namespace Go.Eng
open Go.RowKit Go.Shelf Go.Proofs Pol



def allB (l : List Pol) : Bool := l.all validB
def ofOk (l : List Pol) : Prop := allB l = true ∧ l.length ≤ 100
instance (l : List Pol) : Decidable (ofOk l) := inferInstanceAs (Decidable (_ ∧ _))
def ofL (l : List Pol) : List Pol := if ofOk l then (if (gath l).length = l.length then gath l else []) else []
def ofE (l : List Pol) : Int := if ofOk l then (if (gath l).length = l.length then 0 else 6) else 1
theorem of_bad {l : List Pol} (h : ¬ ofOk l) : ofL l = [] ∧ ofE l = 1 := ⟨if_neg h, if_neg h⟩
theorem of_dup {l : List Pol} (h : ofOk l) (h2 : ¬ (gath l).length = l.length) : ofL l = [] ∧ ofE l = 6 := by
  rw [ofL, ofE, if_pos h, if_pos h, if_neg h2, if_neg h2]; exact ⟨rfl, rfl⟩
theorem of_fine {l : List Pol} (h : ofOk l) (h2 : (gath l).length = l.length) : ofL l = gath l ∧ ofE l = 0 := by
  rw [ofL, ofE, if_pos h, if_pos h, if_pos h2, if_pos h2]; exact ⟨rfl, rfl⟩

theorem rOf_spec {w : World} {A : Option Addr} {n c : Nat} {l : List Pol} (hs : RdP w A n l) : Ret Try.prog 23 #[.slice A n c] w (fun v w' => ∃ (A1 : Option Addr) (n1 c1 : Nat), v = .tuple #[.slice A1 n1 c1, .int .i64 (ofE l)] ∧ RdP w' A1 n1 (ofL l) ∧ Below w.heap.size w w') := by
  obtain ⟨bs1, os2, hA3, hc4⟩ := hs.flat
  have hln5 := hs.len
  have hbd6 := hs.bd
  have hlen_l := hs.len
  refine ret_of (args := [.slice A n c]) Try.func23 rfl Try.ntmps23 rfl (rs := [.tmp 2, .tmp 3]) rfl ?_
  refine wc_seq ?_
  refine wc_region ?_
  refine wl_op rfl (op_assign rfl rfl ?_)
  refine wl_op rfl (op_assign rfl rfl ?_)
  refine (wl_done (then_norm ?_))
  refine wc_seq ?_
  refine wc_seq ?_
  refine wc_region ?_
  refine wl_op rfl (op_move rfl rfl ?_)
  refine wl_op rfl (op_len_slice rfl rfl und22 rfl rfl ?_)
  refine wl_op rfl (op_move rfl rfl ?_)
  refine (wl_done (then_norm ?_))
  refine wc_block ?_
  refine wc_loop (σ := Nat × World) (fun st_ => [(0, .slice A n c), (2, .slice none 0 0), (3, .int .i64 0), (7, .slice A n c), (8, .int .i64 ((n : Nat) : Int)), (9, .int .i64 (st_.1 : Int))]) (fun st_ => st_.2) (fun st_ => (st_.1 ≤ n) ∧ (∀ (i : Nat) (x : Pol), i < st_.1 → l[i]? = some x → validB x = true) ∧ (Below w.heap.size w st_.2)) (fun st_ => n - st_.1) (0, w) ⟨(by first | omega | (dsimp only; omega)), (fun i x hi => absurd hi (by omega)), (Below.refl _ _)⟩ ⟨rfl, rfl, rfl, rfl, rfl, rfl, trivial⟩ rfl ?_
  rintro ⟨k, W7⟩ ⟨hk, hall, hE8⟩
  dsimp only at hk hall hE8
  refine wc_at [(0, .slice A n c), (2, .slice none 0 0), (3, .int .i64 0), (7, .slice A n c), (8, .int .i64 ((n : Nat) : Int)), (9, .int .i64 (k : Int))] W7 ⟨rfl, rfl, rfl, rfl, rfl, rfl, trivial⟩ rfl ?_
  refine wc_seq ?_
  refine wc_region ?_
  refine wl_op rfl (op_lss rfl rfl rfl ?_)
  refine (wl_done (then_norm ?_))
  refine wc_seq ?_
  refine wc_cond (b := decide ((k : Int) < ((n : Nat) : Int))) rfl (fun hc9 => ?_) (fun hc9 => ?_)
  · have hc9r := hc9
    have hc9 := of_decide_eq_true hc9
    refine wc_skip ?_
    refine (then_norm ?_)
    refine wc_seq ?_
    refine wc_block ?_
    refine wc_seq ?_
    refine wc_region ?_
    obtain ⟨x_l_k, hx_l_k⟩ : ∃ x, l[k]? = some x := ⟨_, List.getElem?_eq_getElem (by have := hs.len; omega)⟩
    refine wl_op rfl (op_indexAddr (j := k) rfl rfl und22 sz46 (hA3 (by omega)) rfl (by omega) rfl ?_)
    have hB10 : Below w.heap.size w W7 := (below_step (Below.refl _ _) hE8)
    refine wl_op rfl (op_loadN (vs := [.int .i64 x_l_k.kind, .int .i64 x_l_k.val]) rfl agg46 sz46 rfl ((hc4 k x_l_k hx_l_k).ext hB10) rfl ?_)
    refine wl_op rfl (op_alloc zero46 rfl ?_)
    intro W11 b12 hN13
    have hb14 : W11.heap[b12]? = some (.cells #[.int .i64 0, .int .i64 0] 46 (0, 0)) := hN13.blk
    refine wl_op rfl (op_storeW rfl rfl sz46 hb14 rfl rfl ?_)
    intro W15 hP16 hb17
    have hb17 : W15.heap[b12]? = some (.cells #[.int .i64 x_l_k.kind, .int .i64 x_l_k.val] 46 (0, 0)) := hb17
    refine (wl_done (then_norm ?_))
    refine wc_seq ?_
    refine wc_region ?_
    refine wl_op rfl (op_loadN (vs := [.int .i64 x_l_k.kind, .int .i64 x_l_k.val]) rfl agg46 sz46 rfl (cells_blk hb17) rfl ?_)
    refine wl_op rfl (op_call ent26 rfl (rValid_spec) rfl ?_)
    rintro _ W18 ⟨rfl, hE19⟩
    refine wl_op rfl (op_not rfl rfl ?_)
    refine (wl_done (then_norm ?_))
    refine wc_cond (b := !(validB ⟨x_l_k.kind, x_l_k.val⟩)) rfl (fun hc20 => ?_) (fun hc20 => ?_)
    · have hxv : validB x_l_k = false := by simpa using hc20
      have hno : ¬ ofOk l := fun h => by have h1 := h.1; rw [allB, all_no (f := validB) hx_l_k hxv] at h1; cases h1
      refine wc_seq ?_
      refine wc_region ?_
      refine wl_op rfl (op_assign rfl rfl ?_)
      refine wl_op rfl (op_assign rfl rfl ?_)
      refine (wl_done (then_norm ?_))
      refine wc_ret ?_
      refine (block_ret (then_ret (then_ret (block_ret (then_ret ?_)))))
      have hB21 : Below w.heap.size w W18 := (below_step (hP16.below (below_new hB10 hN13) (le_new hB10 hN13)) hE19)
      refine ⟨[_, _], ⟨rfl, rfl, trivial⟩, ⟨none, 0, 0, ?_, (by rw [(of_bad hno).1]; exact rd_nil _ _ _), hB21⟩⟩
      rw [(of_bad hno).2]
      rfl
    · have hvx : validB x_l_k = true := by simpa using hc20
      refine wc_skip ?_
      refine (block_norm (then_norm ?_))
      refine wc_region ?_
      refine wl_op rfl (op_add (r := ((k + 1 : Nat) : Int)) rfl rfl (by omega) (by omega) rfl ?_)
      refine wl_op rfl (op_move rfl rfl ?_)
      refine (wl_done (then_norm ?_))
      have hB22 : Below w.heap.size w W18 := (below_step (hP16.below (below_new hB10 hN13) (le_new hB10 hN13)) hE19)
      refine ⟨((k + 1), W18), ⟨(by first | omega | (dsimp only; omega)), (fun i x hi hx => by rcases Nat.lt_or_ge i k with h | h; exact hall i x h hx; have e : i = k := (by dsimp only at hi; omega); subst e; rw [hx_l_k] at hx; cases hx; exact hvx), hB22⟩, ?_, ⟨rfl, rfl, rfl, rfl, rfl, rfl, trivial⟩, rfl⟩
      · dsimp only; omega
  · have hc9r := hc9
    have hc9 := of_decide_eq_false hc9
    refine wc_exit ?_
    refine (then_exit (then_exit (block_here (then_norm ?_))))
    refine wc_seq ?_
    refine wc_seq ?_
    refine wc_region ?_
    refine wl_op rfl (op_move rfl rfl ?_)
    refine wl_op rfl (op_len_slice rfl rfl und22 rfl rfl ?_)
    refine wl_op rfl (op_gtr rfl rfl rfl ?_)
    refine (wl_done (then_norm ?_))
    refine WC.sub [(0, .slice A n c), (2, .slice none 0 0), (3, .int .i64 0), (19, .bool (decide (100 < ((n : Nat) : Int))))] ⟨rfl, rfl, rfl, rfl, trivial⟩ ?_
    refine wc_cond (b := decide (100 < ((n : Nat) : Int))) rfl (fun hc23 => ?_) (fun hc23 => ?_)
    · have hc23r := hc23
      have hc23 := of_decide_eq_true hc23
      have hno : ¬ ofOk l := fun h => by have := h.2; omega
      refine wc_seq ?_
      refine wc_region ?_
      refine wl_op rfl (op_assign rfl rfl ?_)
      refine wl_op rfl (op_assign rfl rfl ?_)
      refine (wl_done (then_norm ?_))
      refine wc_ret ?_
      refine (then_ret ?_)
      have hB24 : Below w.heap.size w W7 := (below_step (Below.refl _ _) hE8)
      refine ⟨[_, _], ⟨rfl, rfl, trivial⟩, ⟨none, 0, 0, ?_, (by rw [(of_bad hno).1]; exact rd_nil _ _ _), hB24⟩⟩
      rw [(of_bad hno).2]
      rfl
    · have hc23r := hc23
      have hc23 := of_decide_eq_false hc23
      have hok : ofOk l := ⟨all_yes (f := validB) fun i x hi => hall i x (by omega), by omega⟩
      refine wc_skip ?_
      refine (then_norm ?_)
      refine wc_seq ?_
      refine wc_region ?_
      refine wl_op rfl (op_move rfl rfl ?_)
      have hB25 : Below w.heap.size w W7 := (below_step (Below.refl _ _) hE8)
      refine wl_op rfl (op_call ent55 rfl (gathered_spec (hs.ext (flat_lifts _) hB25)) rfl ?_)
      rintro _ W31 ⟨A126, n127, c128, rfl, hp29, hp30, hE32⟩
      have hgl := hp29.len
      refine wl_op rfl (op_assign rfl rfl ?_)
      refine (wl_done (then_norm ?_))
      refine wc_seq ?_
      refine wc_seq ?_
      refine wc_region ?_
      refine wl_op rfl (op_move rfl rfl ?_)
      refine wl_op rfl (op_len_slice rfl rfl und22 rfl rfl ?_)
      refine wl_op rfl (op_move rfl rfl ?_)
      refine wl_op rfl (op_len_slice rfl rfl und22 rfl rfl ?_)
      refine wl_op rfl (op_neq rfl rfl rfl ?_)
      refine (wl_done (then_norm ?_))
      refine WC.sub [(2, .slice none 0 0), (3, .int .i64 0), (6, .slice A126 n127 c128), (26, .bool (!decide (((n127 : Nat) : Int) = ((n : Nat) : Int))))] ⟨rfl, rfl, rfl, rfl, trivial⟩ ?_
      refine wc_cond (b := !decide (((n127 : Nat) : Int) = ((n : Nat) : Int))) rfl (fun hc33 => ?_) (fun hc33 => ?_)
      · have hc33r := hc33
        have hc33 := of_decide_eq_false (not_t hc33)
        refine wc_seq ?_
        refine wc_region ?_
        refine wl_op rfl (op_assign rfl rfl ?_)
        refine wl_op rfl (op_assign rfl rfl ?_)
        refine (wl_done (then_norm ?_))
        refine wc_ret ?_
        refine (then_ret ?_)
        have hB34 : Below w.heap.size w W31 := (below_step hB25 hE32)
        have hd := of_dup hok (by omega)
        refine ⟨[_, _], ⟨rfl, rfl, trivial⟩, ⟨none, 0, 0, ?_, (by rw [hd.1]; exact rd_nil _ _ _), hB34⟩⟩
        rw [hd.2]
        rfl
      · have hc33r := hc33
        have hc33 := of_decide_eq_true (not_f hc33)
        refine wc_skip ?_
        refine (then_norm ?_)
        refine wc_seq ?_
        refine wc_region ?_
        refine wl_op rfl (op_move rfl rfl ?_)
        refine wl_op rfl (op_assign rfl rfl ?_)
        refine wl_op rfl (op_assign rfl rfl ?_)
        refine (wl_done (then_norm ?_))
        refine wc_ret ?_
        have hB35 : Below w.heap.size w W31 := (below_step hB25 hE32)
        have hd := of_fine hok (by omega)
        refine ⟨[_, _], ⟨rfl, rfl, trivial⟩, ⟨A126, n127, c128, ?_, (by rw [hd.1]; exact hp29), hB35⟩⟩
        rw [hd.2]
        rfl

theorem Of1_spec {w : World} {a b : Int} : Ret Try.prog 60 #[.agg #[.int .i64 a, .int .i64 b]] w (fun v w' => v = .bool (!validB ⟨a, b⟩) ∧ Below w.heap.size w w') := by
  refine ret_of (args := [.agg #[.int .i64 a, .int .i64 b]]) Try.func60 rfl Try.ntmps60 rfl (rs := [.tmp 2]) rfl ?_
  refine wc_seq ?_
  refine wc_region ?_
  refine wl_op rfl (op_box rfl rfl ?_)
  intro W1 b2 hN3
  have hb4 : W1.heap[b2]? = some (.cells #[.int .i64 a, .int .i64 b] 46 (0, 0)) := hN3.blk
  refine wl_op rfl (op_assign rfl rfl ?_)
  refine (wl_done (then_norm ?_))
  refine wc_seq ?_
  refine wc_region ?_
  refine wl_op rfl (op_loadN (vs := [.int .i64 a, .int .i64 b]) rfl agg46 sz46 rfl (cells_blk hb4) rfl ?_)
  refine wl_op rfl (op_call ent25 rfl (Valid_spec) rfl ?_)
  rintro _ W5 ⟨rfl, hE6⟩
  refine wl_op rfl (op_not rfl rfl ?_)
  refine wl_op rfl (op_assign rfl rfl ?_)
  refine (wl_done (then_norm ?_))
  refine wc_ret ?_
  have hB7 : Below w.heap.size w W5 := (below_step (below_new (Below.refl _ _) hN3) hE6)
  refine ⟨[_], ⟨rfl, trivial⟩, ⟨?_, hB7⟩⟩
  exact rfl

theorem Of2_spec {w : World} {a b x y : Int} (h1 : 0 ≤ a ∧ a ≤ 1000) (h2 : 0 ≤ x ∧ x ≤ 1000) : Ret Try.prog 63 #[.agg #[.int .i64 a, .int .i64 b], .agg #[.int .i64 x, .int .i64 y]] w (fun v w' => v = .int .i64 (a - x) ∧ Below w.heap.size w w') := by
  refine ret_of (args := [.agg #[.int .i64 a, .int .i64 b], .agg #[.int .i64 x, .int .i64 y]]) Try.func63 rfl Try.ntmps63 rfl (rs := [.tmp 4]) rfl ?_
  refine wc_seq ?_
  refine wc_region ?_
  refine wl_op rfl (op_box rfl rfl ?_)
  intro W1 b2 hN3
  have hb4 : W1.heap[b2]? = some (.cells #[.int .i64 a, .int .i64 b] 46 (0, 0)) := hN3.blk
  refine wl_op rfl (op_box rfl rfl ?_)
  intro W5 b6 hN7
  have hb8 : W5.heap[b6]? = some (.cells #[.int .i64 x, .int .i64 y] 46 (0, 0)) := hN7.blk
  refine wl_op rfl (op_assign rfl rfl ?_)
  refine (wl_done (then_norm ?_))
  refine wc_seq ?_
  refine wc_region ?_
  refine wl_op rfl (op_fieldAddr rfl fa46_0 rfl ?_)
  have hb9 : W5.heap[b2]? = some (.cells #[.int .i64 a, .int .i64 b] 46 (0, 0)) := (blk_ext hb4 hN7.ext)
  refine wl_op rfl (op_load1 (v := .int .i64 a) rfl agg3 (cell_blk hb9 rfl) rfl ?_)
  refine wl_op rfl (op_fieldAddr rfl fa46_0 rfl ?_)
  refine wl_op rfl (op_load1 (v := .int .i64 x) rfl agg3 (cell_blk hb8 rfl) rfl ?_)
  refine wl_op rfl (op_sub (r := a - x) rfl rfl (by omega) (by omega) rfl ?_)
  refine wl_op rfl (op_assign rfl rfl ?_)
  refine (wl_done (then_norm ?_))
  refine WC.sub [(4, .int .i64 (a - x))] ⟨rfl, trivial⟩ ?_
  refine wc_ret ?_
  have hB10 : Below w.heap.size w W5 := (below_new (below_new (Below.refl _ _) hN3) hN7)
  refine ⟨[_], ⟨rfl, trivial⟩, ⟨?_, hB10⟩⟩
  exact rfl

end Go.Eng

set_option linter.unusedVariables false
set_option maxRecDepth 100000
namespace Go.Eng
open Go.RowKit Go.Shelf Go.Proofs Pol



theorem take_split {α : Type} {l : List α} {k : Nat} {x : α} (h : l[k]? = some x) : l = l.take k ++ x :: l.drop (k + 1) := by
  obtain ⟨hk, rfl⟩ := List.getElem?_eq_some_iff.1 h
  rw [← List.drop_eq_getElem_cons hk, List.take_append_drop]
theorem take_more {α : Type} {l : List α} {k : Nat} {x : α} (h : l[k]? = some x) : l.take (k + 1) = l.take k ++ [x] := by
  obtain ⟨hk, rfl⟩ := List.getElem?_eq_some_iff.1 h
  exact List.take_succ_eq_append_getElem hk

theorem values1_seq {w0 w : World} {A : Option Addr} {n c : Nat} {l : List Pol} {b1 : Nat} (hE0 : Below w0.heap.size w0 w) (hs : RdP w0 A n l) (hb1w : w.heap[b1]? = some (.cells #[.slice A n c] 22 (0, 0))) (h1 : w0.heap.size ≤ b1) : SeqC Try.prog 79 [.pointer (some ⟨b1, 0, none⟩)] (fun p : Pol => [.agg (encP p).toArray]) [] l w.heap.size w := by
  refine seq_of Try.func79 rfl Try.ntmps79 rfl rfl ?_
  intro L J Jx W hW hJs hJxs hY hJ0
  have hlen_l := hs.len
  have hbd_l := hs.bd
  refine wc_seq ?_
  refine wc_region ?_
  have hb1 : W.heap[b1]? = some (.cells #[.slice A n c] 22 (0, 0)) := (blk_ext hb1w hW)
  refine wl_op rfl (op_load1 (v := .slice A n c) rfl agg22 (cell_blk hb1 rfl) rfl ?_)
  refine wl_op rfl (op_len_slice rfl rfl und22 rfl rfl ?_)
  refine wl_op rfl (op_move rfl rfl ?_)
  refine (wl_done (then_norm ?_))
  refine wc_block ?_
  have hB3 : Below w0.heap.size w0 W := (below_step (below_step (Below.refl _ _) hE0) hW)
  refine wc_loop (σ := Nat × World) (fun st_ => [(0, .func (.yield L) #[] #[]), (5, .slice A n c), (6, .int .i64 ((n : Nat) : Int)), (7, .int .i64 (st_.1 : Int))]) (fun st_ => st_.2) (fun st_ => (st_.1 ≤ n) ∧ (J (l.take st_.1) st_.2) ∧ (Below w0.heap.size w0 st_.2)) (fun st_ => n - st_.1) (0, W) ⟨(Nat.zero_le _), hJ0, hB3⟩ ⟨rfl, rfl, rfl, rfl, trivial⟩ rfl ?_
  rintro ⟨k, W2⟩ ⟨hk, hJ, hE4⟩
  dsimp only at hk hJ hE4
  refine wc_at [(0, .func (.yield L) #[] #[]), (5, .slice A n c), (6, .int .i64 ((n : Nat) : Int)), (7, .int .i64 (k : Int))] W2 ⟨rfl, rfl, rfl, rfl, trivial⟩ rfl ?_
  refine wc_seq ?_
  refine wc_region ?_
  refine wl_op rfl (op_lss rfl rfl rfl ?_)
  refine (wl_done (then_norm ?_))
  refine wc_seq ?_
  refine wc_cond (b := decide ((k : Int) < ((n : Nat) : Int))) rfl (fun hc5 => ?_) (fun hc5 => ?_)
  · have hc5r := hc5
    have hc5 := of_decide_eq_true hc5
    refine wc_skip ?_
    refine (then_norm ?_)
    refine wc_seq ?_
    refine wc_block ?_
    refine wc_seq ?_
    refine wc_region ?_
    obtain ⟨bs6, os7, hA8, hc9⟩ := hs.flat
    have hln10 := hs.len
    have hbd11 := hs.bd
    obtain ⟨x_l_k, hx_l_k⟩ : ∃ x, l[k]? = some x := ⟨_, List.getElem?_eq_getElem (by have := hs.len; omega)⟩
    refine wl_op rfl (op_indexAddr (j := k) rfl rfl und22 sz46 (hA8 (by omega)) rfl (by omega) rfl ?_)
    have hB12 : Below w0.heap.size w0 W2 := (below_step (Below.refl _ _) hE4)
    refine wl_op rfl (op_loadN (vs := [.int .i64 x_l_k.kind, .int .i64 x_l_k.val]) rfl agg46 sz46 rfl ((hc9 k x_l_k hx_l_k).ext hB12) rfl ?_)
    refine wl_op rfl (op_alloc zero46 rfl ?_)
    intro W13 b14 hN15
    have hb16 : W13.heap[b14]? = some (.cells #[.int .i64 0, .int .i64 0] 46 (0, 0)) := hN15.blk
    refine wl_op rfl (op_storeW rfl rfl sz46 hb16 rfl rfl ?_)
    intro W17 hP18 hb19
    have hb19 : W17.heap[b14]? = some (.cells #[.int .i64 x_l_k.kind, .int .i64 x_l_k.val] 46 (0, 0)) := hb19
    refine (wl_done (then_norm ?_))
    refine wc_seq ?_
    refine wc_region ?_
    refine wl_op rfl (op_move rfl rfl ?_)
    refine wl_op rfl (op_loadN (vs := [.int .i64 x_l_k.kind, .int .i64 x_l_k.val]) rfl agg46 sz46 rfl (cells_blk hb19) rfl ?_)
    refine wl_op rfl (op_yield rfl rfl rfl (hY (l.take k) x_l_k (l.drop (k + 1)) _ (take_split hx_l_k) (hJs _ _ _ hJ ((But.of_below hN15.ext).put_ge hP18 (Nat.le_of_eq hN15.eq.symm)))) rfl ?_)
    rintro y21 W20 ⟨hlow22, hif23⟩
    refine wl_op rfl (op_not rfl rfl ?_)
    refine (wl_done (then_norm ?_))
    refine wc_cond (b := !y21) rfl (fun hc24 => ?_) (fun hc24 => ?_)
    · rw [not_t hc24, if_neg (by decide)] at hif23
      refine wc_ret ?_
      refine (block_ret (then_ret (then_ret (block_ret ?_))))
      exact seq_ret (take_split hx_l_k) hif23
    · rw [not_f hc24, if_pos rfl] at hif23
      refine wc_skip ?_
      refine (block_norm (then_norm ?_))
      refine wc_region ?_
      refine wl_op rfl (op_add (r := ((k + 1 : Nat) : Int)) rfl rfl (by omega) (by omega) rfl ?_)
      refine wl_op rfl (op_move rfl rfl ?_)
      refine (wl_done (then_norm ?_))
      have hB25 : Below w0.heap.size w0 w := (below_step (Below.refl _ _) hE0)
      have hB26 : Below w0.heap.size w0 W20 := (below_low (hP18.below (below_new hB12 hN15) (le_new hB12 hN15)) hlow22 hB25.size)
      refine ⟨((k + 1), W20), ⟨(by first | omega | (dsimp only; omega)), (by dsimp only; rw [take_more hx_l_k]; exact hif23), hB26⟩, ?_, ⟨rfl, rfl, rfl, rfl, trivial⟩, rfl⟩
      · dsimp only; omega
  · have hc5r := hc5
    have hc5 := of_decide_eq_false hc5
    refine wc_exit ?_
    refine (then_exit (then_exit (block_here ?_)))
    exact seq_done (by have e : l.take k = l := List.take_of_length_le (by have := hs.len; omega); rw [e] at hJ; exact hJ)

theorem Values_spec {w : World} {A : Option Addr} {n c : Nat} : Ret Try.prog 62 #[.slice A n c] w (fun v w' => ∃ (b1 : Nat), v = .func (.func 79) #[] #[.pointer (some ⟨b1, 0, none⟩)] ∧ w'.heap[b1]? = some (.cells #[.slice A n c] 22 (0, 0)) ∧ w.heap.size ≤ b1 ∧ Below w.heap.size w w') := by
  refine ret_of (args := [.slice A n c]) Try.func62 rfl Try.ntmps62 rfl (rs := [.tmp 2]) rfl ?_
  refine wc_seq ?_
  refine wc_region ?_
  refine wl_op rfl (op_box rfl rfl ?_)
  intro W1 b2 hN3
  have hb4 : W1.heap[b2]? = some (.cells #[.slice A n c] 22 (0, 0)) := hN3.blk
  refine wl_op rfl (op_assign rfl rfl ?_)
  refine (wl_done (then_norm ?_))
  refine wc_seq ?_
  refine wc_region ?_
  refine wl_op rfl (op_makeFunc rfl rfl rfl ?_)
  refine wl_op rfl (op_assign rfl rfl ?_)
  refine (wl_done (then_norm ?_))
  refine wc_ret ?_
  have hB5 : Below w.heap.size w W1 := (below_new (Below.refl _ _) hN3)
  refine ⟨[_], ⟨rfl, trivial⟩, ⟨b2, ?_, hb4, (Nat.le_of_eq hN3.eq.symm), hB5⟩⟩
  exact rfl

end Go.Eng
