/- Lemmas for a law of the seat: what functions of the program do, each stated as a contract of its own (module S18r). -/
import Derived.Test.YtbjafckcpkhoaaaS18q
import Derived.Test.YtbjafckcpkhoaaaEngF
import Derived.Test.YtbjafckcpkhoaaaEngH
import Derived.Test.YtbjafckcpkhoaaaChecked
set_option linter.unusedVariables false
set_option maxRecDepth 100000
namespace Go.Eng
open Go.RowKit Go.Shelf Go.Proofs Pol

theorem ent56 : Enters Try.prog 56 := enters_of Try.func56 (by kernel_rfl) rfl

theorem Equal_spec {w : World} {A : Option Addr} {n c : Nat} {a : List Pol} {A2 : Option Addr} {n2 c2 : Nat} {b : List Pol} (hs : RdP w A n a) (hs2 : RdP w A2 n2 b) : Ret Try.prog 56 #[.slice A n c, .slice A2 n2 c2] w (fun v w' => v = .bool (decide (a = b)) ∧ Below w.heap.size w w') := by
  obtain ⟨bs1, os2, hA3, hc4⟩ := hs.flat
  have hln5 := hs.len
  have hbd6 := hs.bd
  have hlen_a := hs.len
  obtain ⟨bs7, os8, hA9, hc10⟩ := hs2.flat
  have hln11 := hs2.len
  have hbd12 := hs2.bd
  have hlen_b := hs2.len
  refine ret_of (args := [.slice A n c, .slice A2 n2 c2]) Try.func56 rfl Try.ntmps56 rfl (rs := [.tmp 4]) rfl ?_
  refine wc_seq ?_
  refine wc_region ?_
  refine wl_op rfl (op_assign rfl rfl ?_)
  refine (wl_done (then_norm ?_))
  refine wc_seq ?_
  refine wc_seq ?_
  refine wc_region ?_
  refine wl_op rfl (op_move rfl rfl ?_)
  refine wl_op rfl (op_len_slice rfl rfl und22 rfl rfl ?_)
  refine wl_op rfl (op_move rfl rfl ?_)
  refine wl_op rfl (op_len_slice rfl rfl und22 rfl rfl ?_)
  refine wl_op rfl (op_neq rfl rfl rfl ?_)
  refine (wl_done (then_norm ?_))
  refine wc_cond (b := !decide (((n : Nat) : Int) = ((n2 : Nat) : Int))) rfl (fun hc13 => ?_) (fun hc13 => ?_)
  · have hc13r := hc13
    have hc13 := of_decide_eq_false (not_t hc13)
    refine wc_seq ?_
    refine wc_region ?_
    refine wl_op rfl (op_assign rfl rfl ?_)
    refine (wl_done (then_norm ?_))
    refine wc_ret ?_
    refine (then_ret ?_)
    refine ⟨[_], ⟨rfl, trivial⟩, ⟨?_, (Below.refl _ _)⟩⟩
    exact congrArg Value.bool (decide_eq_false (fun h => by have := len_iff h; omega)).symm
  · have hc13r := hc13
    have hc13 := of_decide_eq_true (not_f hc13)
    refine wc_skip ?_
    refine (then_norm ?_)
    refine wc_seq ?_
    refine wc_seq ?_
    refine wc_region ?_
    refine wl_op rfl (op_move rfl rfl ?_)
    refine wl_op rfl (op_len_slice rfl rfl und22 rfl rfl ?_)
    refine wl_op rfl (op_move rfl rfl ?_)
    refine (wl_done (then_norm ?_))
    refine WC.sub [(0, .slice A n c), (1, .slice A2 n2 c2), (4, .bool false), (12, .int .i64 ((n : Nat) : Int)), (13, .int .i64 0)] ⟨rfl, rfl, rfl, rfl, rfl, trivial⟩ ?_
    refine wc_block ?_
    refine wc_loop (σ := Nat × World) (fun st_ => [(0, .slice A n c), (1, .slice A2 n2 c2), (4, .bool false), (12, .int .i64 ((n : Nat) : Int)), (13, .int .i64 (st_.1 : Int))]) (fun st_ => st_.2) (fun st_ => (st_.1 ≤ n) ∧ (∀ i, i < st_.1 → a[i]? = b[i]?) ∧ (Below w.heap.size w st_.2)) (fun st_ => n - st_.1) (0, w) ⟨(by first | omega | (dsimp only; omega)), (fun i hi => absurd hi (by omega)), (Below.refl _ _)⟩ ⟨rfl, rfl, rfl, rfl, rfl, trivial⟩ rfl ?_
    rintro ⟨k, W14⟩ ⟨hk, hall, hE15⟩
    dsimp only at hk hall hE15
    refine wc_at [(0, .slice A n c), (1, .slice A2 n2 c2), (4, .bool false), (12, .int .i64 ((n : Nat) : Int)), (13, .int .i64 (k : Int))] W14 ⟨rfl, rfl, rfl, rfl, rfl, trivial⟩ rfl ?_
    refine wc_seq ?_
    refine wc_region ?_
    refine wl_op rfl (op_lss rfl rfl rfl ?_)
    refine (wl_done (then_norm ?_))
    refine wc_seq ?_
    refine wc_cond (b := decide ((k : Int) < ((n : Nat) : Int))) rfl (fun hc16 => ?_) (fun hc16 => ?_)
    · have hc16r := hc16
      have hc16 := of_decide_eq_true hc16
      refine wc_skip ?_
      refine (then_norm ?_)
      refine wc_seq ?_
      refine wc_block ?_
      refine wc_seq ?_
      refine wc_region ?_
      refine wl_op rfl (op_move rfl rfl ?_)
      refine wl_op rfl (op_assign rfl rfl ?_)
      refine (wl_done (then_norm ?_))
      refine wc_seq ?_
      obtain ⟨x_a_k, hx_a_k⟩ : ∃ x, a[k]? = some x := ⟨_, List.getElem?_eq_getElem (by have := hs.len; omega)⟩
      obtain ⟨x_b_k, hx_b_k⟩ : ∃ x, b[k]? = some x := ⟨_, List.getElem?_eq_getElem (by have := hs2.len; omega)⟩
      refine wc_draw mixed [(0, .slice A n c), (1, .slice A2 n2 c2), (4, .bool false), (12, .int .i64 ((n : Nat) : Int)), (13, .int .i64 (k : Int)), (14, .bool (decide ((k : Int) < ((n : Nat) : Int)))), (15, .int .i64 (k : Int)), (5, .int .i64 (k : Int))] ⟨rfl, rfl, rfl, rfl, rfl, rfl, rfl, rfl, trivial⟩ [fun v _ => v = .slice A n c, fun v _ => v = .int .i64 (k : Int), fun v _ => v = .pointer (some ⟨bs1, os2 + k * 2, none⟩), fun v _ => v = .agg #[.int .i64 x_a_k.kind, .int .i64 x_a_k.val], fun v _ => v = .slice A2 n2 c2, fun v _ => v = .int .i64 (k : Int), fun v _ => v = .pointer (some ⟨bs7, os8 + k * 2, none⟩), fun v _ => v = .agg #[.int .i64 x_b_k.kind, .int .i64 x_b_k.val], fun v _ => v = .bool (!((decide (x_a_k.kind = x_b_k.kind)) && (decide (x_a_k.val = x_b_k.val))))] [[], [], [0, 1], [2], [], [], [4, 5], [6], [3, 7]] [0, 1, 2, 3, 4, 5, 6, 7, 8] rfl rfl rfl ⟨fun _ _ _ _ h => h, fun _ _ _ _ h => h, fun _ _ _ _ h => h, fun _ _ _ _ h => h, fun _ _ _ _ h => h, fun _ _ _ _ h => h, fun _ _ _ _ h => h, fun _ _ _ _ h => h, fun _ _ _ _ h => h, trivial⟩ ⟨?_, ?_, ?_, ?_, ?_, ?_, ?_, ?_, ?_, trivial⟩ ?_
      · intro W17 hW18
        refine gather_nil ?_
        refine opg_none rfl ?_
        exact op_move rfl rfl ⟨told rfl rfl rfl, (Below.refl _ _)⟩
      · intro W17 hW18
        refine gather_nil ?_
        refine opg_none rfl ?_
        exact op_move rfl rfl ⟨told rfl rfl rfl, (Below.refl _ _)⟩
      · intro W17 hW18
        rintro _ rfl
        rintro _ rfl
        refine gather_nil ?_
        refine opg_none rfl ?_
        exact op_indexAddr (j := k) rfl rfl und22 sz46 (hA3 (by omega)) rfl (by omega) rfl ⟨told rfl rfl rfl, (Below.refl _ _)⟩
      · intro W17 hW18
        rintro _ rfl
        refine gather_nil ?_
        refine opg_none rfl ?_
        have hB21 : Below w.heap.size w W17 := (below_step (below_step (Below.refl _ _) hE15) hW18)
        exact op_loadN (vs := [.int .i64 x_a_k.kind, .int .i64 x_a_k.val]) rfl agg46 sz46 rfl ((hc4 k x_a_k hx_a_k).ext hB21) rfl ⟨told rfl rfl rfl, (Below.refl _ _)⟩
      · intro W17 hW18
        refine gather_nil ?_
        refine opg_none rfl ?_
        exact op_move rfl rfl ⟨told rfl rfl rfl, (Below.refl _ _)⟩
      · intro W17 hW18
        refine gather_nil ?_
        refine opg_none rfl ?_
        exact op_move rfl rfl ⟨told rfl rfl rfl, (Below.refl _ _)⟩
      · intro W17 hW18
        rintro _ rfl
        rintro _ rfl
        refine gather_nil ?_
        refine opg_none rfl ?_
        exact op_indexAddr (j := k) rfl rfl und22 sz46 (hA9 (by omega)) rfl (by omega) rfl ⟨told rfl rfl rfl, (Below.refl _ _)⟩
      · intro W17 hW18
        rintro _ rfl
        refine gather_nil ?_
        refine opg_none rfl ?_
        have hB22 : Below w.heap.size w W17 := (below_step (below_step (Below.refl _ _) hE15) hW18)
        exact op_loadN (vs := [.int .i64 x_b_k.kind, .int .i64 x_b_k.val]) rfl agg46 sz46 rfl ((hc10 k x_b_k hx_b_k).ext hB22) rfl ⟨told rfl rfl rfl, (Below.refl _ _)⟩
      · intro W17 hW18
        rintro _ rfl
        rintro _ rfl
        refine gather_nil ?_
        refine opg_none rfl ?_
        exact op_neqA (X := [.int .i64 x_a_k.kind, .int .i64 x_a_k.val]) (Y := [.int .i64 x_b_k.kind, .int .i64 x_b_k.val]) (b := (decide (x_a_k.kind = x_b_k.kind)) && (decide (x_a_k.val = x_b_k.val))) rfl rfl eq46 rfl rfl ⟨told rfl rfl rfl, (Below.refl _ _)⟩
      intro W23 hW24
      rintro _ rfl
      rintro _ rfl
      rintro _ rfl
      rintro _ rfl
      rintro _ rfl
      rintro _ rfl
      rintro _ rfl
      rintro _ rfl
      rintro _ rfl
      refine gather_nil ?_
      refine (then_norm ?_)
      refine wc_cond (b := !((decide (x_a_k.kind = x_b_k.kind)) && (decide (x_a_k.val = x_b_k.val)))) rfl (fun hc25 => ?_) (fun hc25 => ?_)
      · refine wc_seq ?_
        refine wc_region ?_
        refine wl_op rfl (op_assign rfl rfl ?_)
        refine (wl_done (then_norm ?_))
        refine wc_ret ?_
        refine (block_ret (then_ret (then_ret (block_ret (then_ret ?_)))))
        have hB26 : Below w.heap.size w W23 := (below_step (below_step (Below.refl _ _) hE15) hW24)
        refine ⟨[_], ⟨rfl, trivial⟩, ⟨?_, hB26⟩⟩
        exact congrArg Value.bool (decide_eq_false (getE_ne hx_a_k hx_b_k (pol_ne (not_t hc25)))).symm
      · refine wc_skip ?_
        refine (block_norm (then_norm ?_))
        refine wc_region ?_
        refine wl_op rfl (op_add (r := ((k + 1 : Nat) : Int)) rfl rfl (by omega) (by omega) rfl ?_)
        refine wl_op rfl (op_move rfl rfl ?_)
        refine (wl_done (then_norm ?_))
        have hB27 : Below w.heap.size w W23 := (below_step (below_step (Below.refl _ _) hE15) hW24)
        refine ⟨((k + 1), W23), ⟨(by first | omega | (dsimp only; omega)), (all_succ_eq hall hx_a_k hx_b_k (pol_ext (not_f hc25))), hB27⟩, ?_, ⟨rfl, rfl, rfl, rfl, rfl, trivial⟩, rfl⟩
        · dsimp only; omega
    · have hc16r := hc16
      have hc16 := of_decide_eq_false hc16
      refine wc_exit ?_
      refine (then_exit (then_exit (block_here (then_norm ?_))))
      refine wc_seq ?_
      refine wc_region ?_
      refine wl_op rfl (op_assign rfl rfl ?_)
      refine (wl_done (then_norm ?_))
      refine wc_ret ?_
      have hB28 : Below w.heap.size w W14 := (below_step (Below.refl _ _) hE15)
      refine ⟨[_], ⟨rfl, trivial⟩, ⟨?_, hB28⟩⟩
      exact congrArg Value.bool (decide_eq_true (eq_of_all (by omega) (fun i hi => hall i (by omega)))).symm

def sameR (a b : List Pol) : Bool := if validSet a = true ∧ validSet b = true then decide (chosenL a keepPlain = chosenL b keepPlain) else false
theorem chosenE_ne {s : List Pol} (h : ¬ chosenE s = 0) : validSet s = false := by
  rw [Bool.eq_false_iff]; intro h'; exact h (chosenE_0.2 h')
theorem same_bad {a b : List Pol} (h : ((!decide (chosenE a = 0)) || (!decide (chosenE b = 0))) = true) : ¬ (validSet a = true ∧ validSet b = true) := by
  rintro ⟨h1, h2⟩; rw [chosenE_0.2 h1, chosenE_0.2 h2] at h; cases h
theorem same_good {a b : List Pol} (h : ((!decide (chosenE a = 0)) || (!decide (chosenE b = 0))) = false) : validSet a = true ∧ validSet b = true := by
  rw [Bool.or_eq_false_iff, Bool.not_eq_false', Bool.not_eq_false', decide_eq_true_eq, decide_eq_true_eq] at h
  exact ⟨chosenE_0.1 h.1, chosenE_0.1 h.2⟩

theorem Same_spec {w : World} {A : Option Addr} {n c : Nat} {a : List Pol} {A2 : Option Addr} {n2 c2 : Nat} {b : List Pol} (hs : RdP w A n a) (hs2 : RdP w A2 n2 b) (hn : n ≤ 1000) (hn2 : n2 ≤ 1000) : Ret Try.prog 19 #[.slice A n c, .slice A2 n2 c2] w (fun v w' => v = .tuple #[.bool (sameR a b), .int .i64 (overE a b)] ∧ Below w.heap.size w w') := by
  obtain ⟨bs1, os2, hA3, hc4⟩ := hs.flat
  have hln5 := hs.len
  have hbd6 := hs.bd
  have hlen_a := hs.len
  obtain ⟨bs7, os8, hA9, hc10⟩ := hs2.flat
  have hln11 := hs2.len
  have hbd12 := hs2.bd
  have hlen_b := hs2.len
  refine ret_of (args := [.slice A n c, .slice A2 n2 c2]) Try.func19 rfl Try.ntmps19 rfl (rs := [.tmp 4, .tmp 5]) rfl ?_
  refine wc_seq ?_
  refine wc_region ?_
  refine wl_op rfl (op_assign rfl rfl ?_)
  refine wl_op rfl (op_assign rfl rfl ?_)
  refine (wl_done (then_norm ?_))
  refine wc_seq ?_
  refine wc_region ?_
  refine wl_op rfl (op_move rfl rfl ?_)
  refine wl_op rfl (op_call ent21 rfl (Plain_spec hs (by omega)) rfl ?_)
  rintro _ W17 ⟨A113, n114, c115, rfl, hp16, hE18⟩
  refine wl_op rfl (op_move rfl rfl ?_)
  refine wl_op rfl (op_extract (v := .slice A113 n114 c115) rfl rfl rfl ?_)
  refine wl_op rfl (op_extract (v := .int .i64 (chosenE a)) rfl rfl rfl ?_)
  refine wl_op rfl (op_assign rfl rfl ?_)
  refine wl_op rfl (op_assign rfl rfl ?_)
  refine (wl_done (then_norm ?_))
  refine WC.sub [(1, .slice A2 n2 c2), (4, .bool false), (5, .int .i64 0), (6, .slice A113 n114 c115), (7, .int .i64 (chosenE a))] ⟨rfl, rfl, rfl, rfl, rfl, trivial⟩ ?_
  refine wc_seq ?_
  refine wc_region ?_
  refine wl_op rfl (op_move rfl rfl ?_)
  have hB19 : Below w.heap.size w W17 := (below_step (Below.refl _ _) hE18)
  refine wl_op rfl (op_call ent21 rfl (Plain_spec (hs2.ext (flat_lifts _) hB19) (by omega)) rfl ?_)
  rintro _ W24 ⟨A120, n121, c122, rfl, hp23, hE25⟩
  refine wl_op rfl (op_move rfl rfl ?_)
  refine wl_op rfl (op_extract (v := .slice A120 n121 c122) rfl rfl rfl ?_)
  refine wl_op rfl (op_extract (v := .int .i64 (chosenE b)) rfl rfl rfl ?_)
  refine wl_op rfl (op_assign rfl rfl ?_)
  refine wl_op rfl (op_assign rfl rfl ?_)
  refine (wl_done (then_norm ?_))
  refine WC.sub [(4, .bool false), (5, .int .i64 0), (6, .slice A113 n114 c115), (7, .int .i64 (chosenE a)), (8, .slice A120 n121 c122), (9, .int .i64 (chosenE b))] ⟨rfl, rfl, rfl, rfl, rfl, rfl, trivial⟩ ?_
  refine wc_seq ?_
  refine wc_seq ?_
  refine wc_text [(4, .bool false), (5, .int .i64 0), (6, .slice A113 n114 c115), (7, .int .i64 (chosenE a)), (8, .slice A120 n121 c122), (9, .int .i64 (chosenE b))] ⟨rfl, rfl, rfl, rfl, rfl, rfl, trivial⟩ [fun v _ => v = .int .i64 (chosenE a), fun v _ => v = .bool (!decide (chosenE a = 0)), fun v _ => v = .bool (!decide (chosenE a = 0)), fun v _ => v = (bif (!(!decide (chosenE a = 0))) then (.int .i64 (chosenE b)) else undef), fun v _ => v = (bif (!(!decide (chosenE a = 0))) then (.bool (!decide (chosenE b = 0))) else undef), fun v _ => v = .bool ((!decide (chosenE a = 0)) || (!decide (chosenE b = 0)))] [[], [0], [1], [2], [2, 3], [2, 4]] [5] rfl rfl rfl ⟨fun _ _ _ _ h => h, fun _ _ _ _ h => h, fun _ _ _ _ h => h, fun _ _ _ _ h => h, fun _ _ _ _ h => h, fun _ _ _ _ h => h, trivial⟩ ⟨?_, ?_, ?_, ?_, ?_, ?_, trivial⟩ ?_
  · intro W26 hW27
    refine gather_nil ?_
    refine opg_none rfl ?_
    exact op_move rfl rfl ⟨told rfl rfl rfl, (Below.refl _ _)⟩
  · intro W26 hW27
    rintro _ rfl
    refine gather_nil ?_
    refine opg_none rfl ?_
    exact op_neq rfl rfl rfl ⟨told rfl rfl rfl, (Below.refl _ _)⟩
  · intro W26 hW27
    rintro _ rfl
    refine gather_nil ?_
    refine opg_none rfl ?_
    exact op_move rfl rfl ⟨told rfl rfl rfl, (Below.refl _ _)⟩
  · intro W26 hW27
    rintro _ rfl
    refine gather_nil ?_
    refine opg_f1 rfl rfl (fun hg28 => ?_) (fun h => by rw [h, cond_false])
    exact op_move rfl rfl ⟨told rfl rfl (by rw [hg28, cond_true]), (Below.refl _ _)⟩
  · intro W26 hW27
    rintro _ rfl
    intro v29 (hv30 : v29 = bif (!(!decide (chosenE a = 0))) then (.int .i64 (chosenE b)) else undef)
    refine gather_nil ?_
    refine opg_f1 rfl rfl (fun hg31 => ?_) (fun h => by rw [h, cond_false])
    obtain rfl : v29 = .int .i64 (chosenE b) := by rw [hv30, hg31, cond_true]
    exact op_neq rfl rfl rfl ⟨told rfl rfl (by rw [hg31, cond_true]), (Below.refl _ _)⟩
  · intro W26 hW27
    rintro _ rfl
    intro v32 (hv33 : v32 = bif (!(!decide (chosenE a = 0))) then (.bool (!decide (chosenE b = 0))) else undef)
    refine gather_nil ?_
    refine opg_none rfl ?_
    exact op_or rfl rfl rfl (fun h => by rw [hv33, (not_i h), cond_true]) rfl ⟨told rfl rfl rfl, (Below.refl _ _)⟩
  intro W34 hW35
  rintro _ rfl
  refine gather_nil ?_
  refine (then_norm ?_)
  refine wc_cond (b := (!decide (chosenE a = 0)) || (!decide (chosenE b = 0))) rfl (fun hc36 => ?_) (fun hc36 => ?_)
  · have hinv := same_bad hc36
    refine wc_seq ?_
    refine wc_region ?_
    refine wl_op rfl (op_assign rfl rfl ?_)
    refine wl_op rfl (op_assign rfl rfl ?_)
    refine (wl_done (then_norm ?_))
    refine wc_ret ?_
    refine (then_ret ?_)
    have hB37 : Below w.heap.size w W34 := (below_step (below_step hB19 hE25) hW35)
    refine ⟨[_, _], ⟨rfl, rfl, trivial⟩, ⟨?_, hB37⟩⟩
    rw [sameR, overE, if_neg hinv, if_neg hinv]
    rfl
  · have hval := same_good hc36
    refine wc_skip ?_
    refine (then_norm ?_)
    refine wc_seq ?_
    refine wc_region ?_
    refine wl_op rfl (op_move rfl rfl ?_)
    refine wl_op rfl (op_move rfl rfl ?_)
    have hB38 : Below W17.heap.size W17 W34 := (below_step (below_step (Below.refl _ _) hE25) hW35)
    have hB39 : Below W24.heap.size W24 W34 := (below_step (Below.refl _ _) hW35)
    refine wl_op rfl (op_call ent56 rfl (Equal_spec (hp16.ext (flat_lifts _) hB38) (hp23.ext (flat_lifts _) hB39)) rfl ?_)
    rintro _ W40 ⟨rfl, hE41⟩
    refine wl_op rfl (op_assign rfl rfl ?_)
    refine wl_op rfl (op_assign rfl rfl ?_)
    refine (wl_done (then_norm ?_))
    refine WC.sub [(4, .bool (decide ((chosenL a keepPlain) = (chosenL b keepPlain)))), (5, .int .i64 0)] ⟨rfl, rfl, trivial⟩ ?_
    refine wc_ret ?_
    have hB42 : Below w.heap.size w W40 := (below_step (below_step (below_step hB19 hE25) hW35) hE41)
    refine ⟨[_, _], ⟨rfl, rfl, trivial⟩, ⟨?_, hB42⟩⟩
    rw [sameR, overE, if_pos hval, if_pos hval]
    rfl

theorem overL_nil_r (xs : List Pol) : overL xs [] = xs := by
  induction xs with
  | nil => exact overL_nil []
  | cons x xs ih => rw [overL, ih]
def RLev (w : World) (cs : List Value) (s : List Pol) : Prop := ∃ A n c, cs = [.slice A n c] ∧ RdP w A n s ∧ n ≤ c ∧ n ≤ 200
theorem rlev_lifts : Lifts RLev := fun w w' cs x hb ⟨A, n, c, h1, h2, h3⟩ => ⟨A, n, c, h1, h2.ext (flat_lifts _) hb, h3⟩
abbrev RdL (w : World) (A : Option Addr) (n : Nat) (xs : List (List Pol)) : Prop := Rd RLev 1 w A n xs
def effL (l : List (List Pol)) : List Pol := l.foldl overL []
def allV (l : List (List Pol)) : Bool := l.all validSet
def effR (l : List (List Pol)) : List Pol := if allV l = true then effL l else []
def effE (l : List (List Pol)) : Int := if allV l = true then 0 else 1

end Go.Eng
