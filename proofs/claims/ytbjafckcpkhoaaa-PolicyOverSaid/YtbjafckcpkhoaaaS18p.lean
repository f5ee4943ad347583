/- Lemmas for a law of the seat: what functions of the program do, each stated as a contract of its own (module S18p). -/
import Derived.Test.YtbjafckcpkhoaaaS18o
import Derived.Test.YtbjafckcpkhoaaaEngF
import Derived.Test.YtbjafckcpkhoaaaEngH
import Derived.Test.YtbjafckcpkhoaaaChecked
set_option linter.unusedVariables false
set_option maxRecDepth 100000
namespace Go.Eng
open Go.RowKit Go.Shelf Go.Proofs Pol



theorem over1_seq {w0 w : World} {A : Option Addr} {n c : Nat} {a : List Pol} {A3 : Option Addr} {n3 c3 : Nat} {b : List Pol} {b1 b2 : Nat} (hE0 : Below w0.heap.size w0 w) (hs : RdP w0 A n a) (hc : n ≤ c) (hs2 : RdP w0 A3 n3 b) (hc2 : n3 ≤ c3) (hb1w : w.heap[b1]? = some (.cells #[.slice A n c] 22 (0, 0))) (hb2w : w.heap[b2]? = some (.cells #[.slice A3 n3 c3] 22 (0, 0))) (h1 : w0.heap.size ≤ b1) (h2 : w0.heap.size ≤ b2) (hne : b1 ≠ b2) : SeqC Try.prog 77 [.pointer (some ⟨b1, 0, none⟩), .pointer (some ⟨b2, 0, none⟩)] (fun p : Pol => [.agg (encP p).toArray]) [b1, b2] (overL a b) w.heap.size w := by
  refine seq_of Try.func77 rfl Try.ntmps77 rfl rfl ?_
  intro L J Jx W hW hJs hJxs hY hJ0
  refine wc_block ?_
  have hB2 : Below w0.heap.size w0 W := (below_step (below_step (Below.refl _ _) hE0) hW)
  refine wc_loop (σ := (Option Addr) × Nat × Nat × (List Pol) × (Option Addr) × Nat × Nat × (List Pol) × (List Pol) × World) (fun st_ => [(0, .func (.yield L) #[] #[]), (1, .pointer (some ⟨b1, 0, none⟩)), (2, .pointer (some ⟨b2, 0, none⟩))]) (fun st_ => st_.2.2.2.2.2.2.2.2.2) (fun st_ => (RdP w0 st_.1 st_.2.1 st_.2.2.2.1) ∧ (st_.2.1 ≤ st_.2.2.1) ∧ (RdP w0 st_.2.2.2.2.1 st_.2.2.2.2.2.1 st_.2.2.2.2.2.2.2.1) ∧ (st_.2.2.2.2.2.1 ≤ st_.2.2.2.2.2.2.1) ∧ (overL a b = st_.2.2.2.2.2.2.2.2.1 ++ overL st_.2.2.2.1 st_.2.2.2.2.2.2.2.1) ∧ (st_.2.2.2.2.2.2.2.2.2.heap[b1]? = some (.cells #[.slice st_.1 st_.2.1 st_.2.2.1] 22 (0, 0))) ∧ (st_.2.2.2.2.2.2.2.2.2.heap[b2]? = some (.cells #[.slice st_.2.2.2.2.1 st_.2.2.2.2.2.1 st_.2.2.2.2.2.2.1] 22 (0, 0))) ∧ (J st_.2.2.2.2.2.2.2.2.1 st_.2.2.2.2.2.2.2.2.2) ∧ (Below w0.heap.size w0 st_.2.2.2.2.2.2.2.2.2)) (fun st_ => st_.2.1 + st_.2.2.2.2.2.1) (A, n, c, a, A3, n3, c3, b, [], W) ⟨hs, hc, hs2, hc2, (List.nil_append _).symm, (blk_ext hb1w hW), (blk_ext hb2w hW), hJ0, hB2⟩ ⟨rfl, rfl, rfl, trivial⟩ rfl ?_
  rintro ⟨A1, n1, c1, xs, A2, n2, c2, ys, pre, W1⟩ ⟨hx, hcx, hy, hcy, hS, hb1, hb2, hJ, hE3⟩
  dsimp only at hx hcx hy hcy hS hb1 hb2 hJ hE3
  refine wc_at [(0, .func (.yield L) #[] #[]), (1, .pointer (some ⟨b1, 0, none⟩)), (2, .pointer (some ⟨b2, 0, none⟩))] W1 ⟨rfl, rfl, rfl, trivial⟩ rfl ?_
  have hl1 := hx.len
  have hl2 := hy.len
  have hbd1 := hx.bd
  have hbd2 := hy.bd
  refine wc_seq ?_
  refine wc_seq ?_
  refine wc_region ?_
  refine wl_op rfl (op_load1 (v := .slice A1 n1 c1) rfl agg22 (cell_blk hb1 rfl) rfl ?_)
  refine wl_op rfl (op_len_slice rfl rfl und22 rfl rfl ?_)
  refine wl_op rfl (op_load1 (v := .slice A2 n2 c2) rfl agg22 (cell_blk hb2 rfl) rfl ?_)
  refine wl_op rfl (op_len_slice rfl rfl und22 rfl rfl ?_)
  refine wl_op rfl (op_add (r := ((n1 + n2 : Nat) : Int)) rfl rfl (by omega) (by omega) rfl ?_)
  refine wl_op rfl (op_gtr rfl rfl rfl ?_)
  refine (wl_done (then_norm ?_))
  refine wc_cond (b := decide (0 < ((n1 + n2 : Nat) : Int))) rfl (fun hc4 => ?_) (fun hc4 => ?_)
  · have hc4r := hc4
    have hc4 := of_decide_eq_true hc4
    have HC0 := hc4
    refine wc_skip ?_
    refine (then_norm ?_)
    refine wc_block ?_
    refine wc_seq ?_
    refine wc_region ?_
    refine wl_op rfl (op_alloc zero46 rfl ?_)
    intro W5 b6 hN7
    have hb8 : W5.heap[b6]? = some (.cells #[.int .i64 0, .int .i64 0] 46 (0, 0)) := hN7.blk
    refine (wl_done (then_norm ?_))
    refine wc_seq ?_
    refine wc_block ?_
    refine wc_seq ?_
    obtain ⟨bs14, os15, hA16, hc17⟩ := hx.flat
    have hln18 := hx.len
    have hbd19 := hx.bd
    obtain ⟨x_xs_0, hx_xs_0⟩ : ∃ x, (0 < xs.length → xs[0]? = some x) := by
      by_cases h : 0 < xs.length
      · exact ⟨_, fun _ => List.getElem?_eq_getElem h⟩
      · exact ⟨(⟨0, 0⟩ : Pol), fun h1 => absurd h1 h⟩
    obtain ⟨bs22, os23, hA24, hc25⟩ := hy.flat
    have hln26 := hy.len
    have hbd27 := hy.bd
    obtain ⟨x_ys_0, hx_ys_0⟩ : ∃ x, (0 < ys.length → ys[0]? = some x) := by
      by_cases h : 0 < ys.length
      · exact ⟨_, fun _ => List.getElem?_eq_getElem h⟩
      · exact ⟨(⟨0, 0⟩ : Pol), fun h1 => absurd h1 h⟩
    refine wc_draw mixed [(0, .func (.yield L) #[] #[]), (1, .pointer (some ⟨b1, 0, none⟩)), (2, .pointer (some ⟨b2, 0, none⟩)), (5, .slice A1 n1 c1), (6, .int .i64 ((n1 : Nat) : Int)), (7, .slice A2 n2 c2), (8, .int .i64 ((n2 : Nat) : Int)), (9, .int .i64 ((n1 + n2 : Nat) : Int)), (10, .bool (decide (0 < ((n1 + n2 : Nat) : Int)))), (4, .pointer (some ⟨b6, 0, none⟩))] ⟨rfl, rfl, rfl, rfl, rfl, rfl, rfl, rfl, rfl, rfl, trivial⟩ [fun v _ => v = .slice A2 n2 c2, fun v _ => v = .int .i64 ((n2 : Nat) : Int), fun v _ => v = .bool (decide (((n2 : Nat) : Int) = 0)), fun v _ => v = .bool (decide (((n2 : Nat) : Int) = 0)), fun v _ => v = (bif (!(decide (((n2 : Nat) : Int) = 0))) then (.slice A1 n1 c1) else undef), fun v _ => v = (bif (!(decide (((n2 : Nat) : Int) = 0))) then (.int .i64 ((n1 : Nat) : Int)) else undef), fun v _ => v = (bif (!(decide (((n2 : Nat) : Int) = 0))) then (.bool (decide (0 < ((n1 : Nat) : Int)))) else undef), fun v _ => v = (bif (!(decide (((n2 : Nat) : Int) = 0))) then (.bool (decide (0 < ((n1 : Nat) : Int)))) else undef), fun v _ => v = (bif ((!(decide (((n2 : Nat) : Int) = 0))) && (decide (0 < ((n1 : Nat) : Int)))) then (.slice A1 n1 c1) else undef), fun v _ => v = (bif ((!(decide (((n2 : Nat) : Int) = 0))) && (decide (0 < ((n1 : Nat) : Int)))) then (.pointer (some ⟨bs14, os15 + 0 * 2, none⟩)) else undef), fun v _ => v = (bif ((!(decide (((n2 : Nat) : Int) = 0))) && (decide (0 < ((n1 : Nat) : Int)))) then (.pointer (some ⟨bs14, os15 + 0 * 2 + 0, none⟩)) else undef), fun v _ => v = (bif ((!(decide (((n2 : Nat) : Int) = 0))) && (decide (0 < ((n1 : Nat) : Int)))) then (.int .i64 x_xs_0.kind) else undef), fun v _ => v = (bif ((!(decide (((n2 : Nat) : Int) = 0))) && (decide (0 < ((n1 : Nat) : Int)))) then (.slice A2 n2 c2) else undef), fun v _ => v = (bif ((!(decide (((n2 : Nat) : Int) = 0))) && (decide (0 < ((n1 : Nat) : Int)))) then (.pointer (some ⟨bs22, os23 + 0 * 2, none⟩)) else undef), fun v _ => v = (bif ((!(decide (((n2 : Nat) : Int) = 0))) && (decide (0 < ((n1 : Nat) : Int)))) then (.pointer (some ⟨bs22, os23 + 0 * 2 + 0, none⟩)) else undef), fun v _ => v = (bif ((!(decide (((n2 : Nat) : Int) = 0))) && (decide (0 < ((n1 : Nat) : Int)))) then (.int .i64 x_ys_0.kind) else undef), fun v _ => v = (bif ((!(decide (((n2 : Nat) : Int) = 0))) && (decide (0 < ((n1 : Nat) : Int)))) then (.bool (decide (x_xs_0.kind < x_ys_0.kind))) else undef), fun v _ => v = (bif (!(decide (((n2 : Nat) : Int) = 0))) then (.bool ((decide (0 < ((n1 : Nat) : Int))) && (decide (x_xs_0.kind < x_ys_0.kind)))) else undef), fun v _ => v = .bool ((decide (((n2 : Nat) : Int) = 0)) || ((decide (0 < ((n1 : Nat) : Int))) && (decide (x_xs_0.kind < x_ys_0.kind)))), fun v _ => v = .bool ((decide (((n2 : Nat) : Int) = 0)) || ((decide (0 < ((n1 : Nat) : Int))) && (decide (x_xs_0.kind < x_ys_0.kind))))] [[], [0], [1], [2], [3], [3, 4], [3, 5], [3, 6], [7], [7, 8], [7, 9], [7, 10], [7], [7, 12], [7, 13], [7, 14], [7, 11, 15], [3, 7, 16], [3, 17], [18]] [0, 1, 2, 3, 18, 19] rfl rfl rfl ⟨fun _ _ _ _ h => h, fun _ _ _ _ h => h, fun _ _ _ _ h => h, fun _ _ _ _ h => h, fun _ _ _ _ h => h, fun _ _ _ _ h => h, fun _ _ _ _ h => h, fun _ _ _ _ h => h, fun _ _ _ _ h => h, fun _ _ _ _ h => h, fun _ _ _ _ h => h, fun _ _ _ _ h => h, fun _ _ _ _ h => h, fun _ _ _ _ h => h, fun _ _ _ _ h => h, fun _ _ _ _ h => h, fun _ _ _ _ h => h, fun _ _ _ _ h => h, fun _ _ _ _ h => h, fun _ _ _ _ h => h, trivial⟩ ⟨?_, ?_, ?_, ?_, ?_, ?_, ?_, ?_, ?_, ?_, ?_, ?_, ?_, ?_, ?_, ?_, ?_, ?_, ?_, ?_, trivial⟩ ?_
    · intro W9 hW10
      refine gather_nil ?_
      refine opg_none rfl ?_
      have hb29 : W9.heap[b2]? = some (.cells #[.slice A2 n2 c2] 22 (0, 0)) := (blk_ext (blk_ext hb2 hN7.ext) hW10)
      exact op_load1 (v := .slice A2 n2 c2) rfl agg22 (cell_blk hb29 rfl) rfl ⟨told rfl rfl rfl, (Below.refl _ _)⟩
    · intro W9 hW10
      rintro _ rfl
      refine gather_nil ?_
      refine opg_none rfl ?_
      exact op_len_slice rfl rfl und22 rfl rfl ⟨told rfl rfl rfl, (Below.refl _ _)⟩
    · intro W9 hW10
      rintro _ rfl
      refine gather_nil ?_
      refine opg_none rfl ?_
      exact op_eql rfl rfl rfl ⟨told rfl rfl rfl, (Below.refl _ _)⟩
    · intro W9 hW10
      rintro _ rfl
      refine gather_nil ?_
      refine opg_none rfl ?_
      exact op_move rfl rfl ⟨told rfl rfl rfl, (Below.refl _ _)⟩
    · intro W9 hW10
      rintro _ rfl
      refine gather_nil ?_
      refine opg_f1 rfl rfl (fun hg30 => ?_) (fun h => by rw [h, cond_false])
      have hd31 := of_decide_eq_false (not_t hg30)
      have hb32 : W9.heap[b1]? = some (.cells #[.slice A1 n1 c1] 22 (0, 0)) := (blk_ext (blk_ext hb1 hN7.ext) hW10)
      exact op_load1 (v := .slice A1 n1 c1) rfl agg22 (cell_blk hb32 rfl) rfl ⟨told rfl rfl (by rw [hg30, cond_true]), (Below.refl _ _)⟩
    · intro W9 hW10
      rintro _ rfl
      intro v33 (hv34 : v33 = bif (!(decide (((n2 : Nat) : Int) = 0))) then (.slice A1 n1 c1) else undef)
      refine gather_nil ?_
      refine opg_f1 rfl rfl (fun hg35 => ?_) (fun h => by rw [h, cond_false])
      have hd36 := of_decide_eq_false (not_t hg35)
      obtain rfl : v33 = .slice A1 n1 c1 := by rw [hv34, hg35, cond_true]
      exact op_len_slice rfl rfl und22 rfl rfl ⟨told rfl rfl (by rw [hg35, cond_true]), (Below.refl _ _)⟩
    · intro W9 hW10
      rintro _ rfl
      intro v37 (hv38 : v37 = bif (!(decide (((n2 : Nat) : Int) = 0))) then (.int .i64 ((n1 : Nat) : Int)) else undef)
      refine gather_nil ?_
      refine opg_f1 rfl rfl (fun hg39 => ?_) (fun h => by rw [h, cond_false])
      have hd40 := of_decide_eq_false (not_t hg39)
      obtain rfl : v37 = .int .i64 ((n1 : Nat) : Int) := by rw [hv38, hg39, cond_true]
      exact op_gtr rfl rfl rfl ⟨told rfl rfl (by rw [hg39, cond_true]), (Below.refl _ _)⟩
    · intro W9 hW10
      rintro _ rfl
      intro v41 (hv42 : v41 = bif (!(decide (((n2 : Nat) : Int) = 0))) then (.bool (decide (0 < ((n1 : Nat) : Int)))) else undef)
      refine gather_nil ?_
      refine opg_f1 rfl rfl (fun hg43 => ?_) (fun h => by rw [h, cond_false])
      obtain rfl : v41 = .bool (decide (0 < ((n1 : Nat) : Int))) := by rw [hv42, hg43, cond_true]
      exact op_move rfl rfl ⟨told rfl rfl (by rw [hg43, cond_true]), (Below.refl _ _)⟩
    · intro W9 hW10
      intro v44 (hv45 : v44 = bif (!(decide (((n2 : Nat) : Int) = 0))) then (.bool (decide (0 < ((n1 : Nat) : Int)))) else undef)
      refine gather_nil ?_
      refine opg_t rfl rfl hv45 (fun hg46 => ?_) (fun h => by rw [h, cond_false])
      have hd47 := of_decide_eq_false (not_t (and_l hg46))
      have hd48 := of_decide_eq_true (and_r hg46)
      obtain rfl : v44 = .bool (decide (0 < ((n1 : Nat) : Int))) := by rw [hv45, (and_l hg46), cond_true]
      have hb49 : W9.heap[b1]? = some (.cells #[.slice A1 n1 c1] 22 (0, 0)) := (blk_ext (blk_ext hb1 hN7.ext) hW10)
      exact op_load1 (v := .slice A1 n1 c1) rfl agg22 (cell_blk hb49 rfl) rfl ⟨told rfl rfl (by rw [hg46, cond_true]), (Below.refl _ _)⟩
    · intro W9 hW10
      intro v50 (hv51 : v50 = bif (!(decide (((n2 : Nat) : Int) = 0))) then (.bool (decide (0 < ((n1 : Nat) : Int)))) else undef)
      intro v52 (hv53 : v52 = bif ((!(decide (((n2 : Nat) : Int) = 0))) && (decide (0 < ((n1 : Nat) : Int)))) then (.slice A1 n1 c1) else undef)
      refine gather_nil ?_
      refine opg_t rfl rfl hv51 (fun hg54 => ?_) (fun h => by rw [h, cond_false])
      have hd55 := of_decide_eq_false (not_t (and_l hg54))
      have hd56 := of_decide_eq_true (and_r hg54)
      obtain rfl : v50 = .bool (decide (0 < ((n1 : Nat) : Int))) := by rw [hv51, (and_l hg54), cond_true]
      obtain rfl : v52 = .slice A1 n1 c1 := by rw [hv53, hg54, cond_true]
      exact op_indexAddr (j := 0) rfl rfl und22 sz46 (hA16 (by omega)) rfl (by omega) rfl ⟨told rfl rfl (by rw [hg54, cond_true]), (Below.refl _ _)⟩
    · intro W9 hW10
      intro v57 (hv58 : v57 = bif (!(decide (((n2 : Nat) : Int) = 0))) then (.bool (decide (0 < ((n1 : Nat) : Int)))) else undef)
      intro v59 (hv60 : v59 = bif ((!(decide (((n2 : Nat) : Int) = 0))) && (decide (0 < ((n1 : Nat) : Int)))) then (.pointer (some ⟨bs14, os15 + 0 * 2, none⟩)) else undef)
      refine gather_nil ?_
      refine opg_t rfl rfl hv58 (fun hg61 => ?_) (fun h => by rw [h, cond_false])
      obtain rfl : v57 = .bool (decide (0 < ((n1 : Nat) : Int))) := by rw [hv58, (and_l hg61), cond_true]
      obtain rfl : v59 = .pointer (some ⟨bs14, os15 + 0 * 2, none⟩) := by rw [hv60, hg61, cond_true]
      exact op_fieldAddr rfl fa46_0 rfl ⟨told rfl rfl (by rw [hg61, cond_true]), (Below.refl _ _)⟩
    · intro W9 hW10
      intro v62 (hv63 : v62 = bif (!(decide (((n2 : Nat) : Int) = 0))) then (.bool (decide (0 < ((n1 : Nat) : Int)))) else undef)
      intro v64 (hv65 : v64 = bif ((!(decide (((n2 : Nat) : Int) = 0))) && (decide (0 < ((n1 : Nat) : Int)))) then (.pointer (some ⟨bs14, os15 + 0 * 2 + 0, none⟩)) else undef)
      refine gather_nil ?_
      refine opg_t rfl rfl hv63 (fun hg66 => ?_) (fun h => by rw [h, cond_false])
      have hd67 := of_decide_eq_false (not_t (and_l hg66))
      have hd68 := of_decide_eq_true (and_r hg66)
      obtain rfl : v62 = .bool (decide (0 < ((n1 : Nat) : Int))) := by rw [hv63, (and_l hg66), cond_true]
      obtain rfl : v64 = .pointer (some ⟨bs14, os15 + 0 * 2 + 0, none⟩) := by rw [hv65, hg66, cond_true]
      have hB69 : Below w0.heap.size w0 W9 := (below_step (below_new (below_step (Below.refl _ _) hE3) hN7) hW10)
      exact op_load1 (v := .int .i64 x_xs_0.kind) rfl agg3 (((hc17 0 x_xs_0 (hx_xs_0 (by have := hx.len; omega))).ext hB69).at (i := 0) rfl) rfl ⟨told rfl rfl (by rw [hg66, cond_true]), (Below.refl _ _)⟩
    · intro W9 hW10
      intro v70 (hv71 : v70 = bif (!(decide (((n2 : Nat) : Int) = 0))) then (.bool (decide (0 < ((n1 : Nat) : Int)))) else undef)
      refine gather_nil ?_
      refine opg_t rfl rfl hv71 (fun hg72 => ?_) (fun h => by rw [h, cond_false])
      have hd73 := of_decide_eq_false (not_t (and_l hg72))
      have hd74 := of_decide_eq_true (and_r hg72)
      obtain rfl : v70 = .bool (decide (0 < ((n1 : Nat) : Int))) := by rw [hv71, (and_l hg72), cond_true]
      have hb75 : W9.heap[b2]? = some (.cells #[.slice A2 n2 c2] 22 (0, 0)) := (blk_ext (blk_ext hb2 hN7.ext) hW10)
      exact op_load1 (v := .slice A2 n2 c2) rfl agg22 (cell_blk hb75 rfl) rfl ⟨told rfl rfl (by rw [hg72, cond_true]), (Below.refl _ _)⟩
    · intro W9 hW10
      intro v76 (hv77 : v76 = bif (!(decide (((n2 : Nat) : Int) = 0))) then (.bool (decide (0 < ((n1 : Nat) : Int)))) else undef)
      intro v78 (hv79 : v78 = bif ((!(decide (((n2 : Nat) : Int) = 0))) && (decide (0 < ((n1 : Nat) : Int)))) then (.slice A2 n2 c2) else undef)
      refine gather_nil ?_
      refine opg_t rfl rfl hv77 (fun hg80 => ?_) (fun h => by rw [h, cond_false])
      have hd81 := of_decide_eq_false (not_t (and_l hg80))
      have hd82 := of_decide_eq_true (and_r hg80)
      obtain rfl : v76 = .bool (decide (0 < ((n1 : Nat) : Int))) := by rw [hv77, (and_l hg80), cond_true]
      obtain rfl : v78 = .slice A2 n2 c2 := by rw [hv79, hg80, cond_true]
      exact op_indexAddr (j := 0) rfl rfl und22 sz46 (hA24 (by omega)) rfl (by omega) rfl ⟨told rfl rfl (by rw [hg80, cond_true]), (Below.refl _ _)⟩
    · intro W9 hW10
      intro v83 (hv84 : v83 = bif (!(decide (((n2 : Nat) : Int) = 0))) then (.bool (decide (0 < ((n1 : Nat) : Int)))) else undef)
      intro v85 (hv86 : v85 = bif ((!(decide (((n2 : Nat) : Int) = 0))) && (decide (0 < ((n1 : Nat) : Int)))) then (.pointer (some ⟨bs22, os23 + 0 * 2, none⟩)) else undef)
      refine gather_nil ?_
      refine opg_t rfl rfl hv84 (fun hg87 => ?_) (fun h => by rw [h, cond_false])
      obtain rfl : v83 = .bool (decide (0 < ((n1 : Nat) : Int))) := by rw [hv84, (and_l hg87), cond_true]
      obtain rfl : v85 = .pointer (some ⟨bs22, os23 + 0 * 2, none⟩) := by rw [hv86, hg87, cond_true]
      exact op_fieldAddr rfl fa46_0 rfl ⟨told rfl rfl (by rw [hg87, cond_true]), (Below.refl _ _)⟩
    · intro W9 hW10
      intro v88 (hv89 : v88 = bif (!(decide (((n2 : Nat) : Int) = 0))) then (.bool (decide (0 < ((n1 : Nat) : Int)))) else undef)
      intro v90 (hv91 : v90 = bif ((!(decide (((n2 : Nat) : Int) = 0))) && (decide (0 < ((n1 : Nat) : Int)))) then (.pointer (some ⟨bs22, os23 + 0 * 2 + 0, none⟩)) else undef)
      refine gather_nil ?_
      refine opg_t rfl rfl hv89 (fun hg92 => ?_) (fun h => by rw [h, cond_false])
      have hd93 := of_decide_eq_false (not_t (and_l hg92))
      have hd94 := of_decide_eq_true (and_r hg92)
      obtain rfl : v88 = .bool (decide (0 < ((n1 : Nat) : Int))) := by rw [hv89, (and_l hg92), cond_true]
      obtain rfl : v90 = .pointer (some ⟨bs22, os23 + 0 * 2 + 0, none⟩) := by rw [hv91, hg92, cond_true]
      have hB95 : Below w0.heap.size w0 W9 := (below_step (below_new (below_step (Below.refl _ _) hE3) hN7) hW10)
      exact op_load1 (v := .int .i64 x_ys_0.kind) rfl agg3 (((hc25 0 x_ys_0 (hx_ys_0 (by have := hy.len; omega))).ext hB95).at (i := 0) rfl) rfl ⟨told rfl rfl (by rw [hg92, cond_true]), (Below.refl _ _)⟩
    · intro W9 hW10
      intro v96 (hv97 : v96 = bif (!(decide (((n2 : Nat) : Int) = 0))) then (.bool (decide (0 < ((n1 : Nat) : Int)))) else undef)
      intro v98 (hv99 : v98 = bif ((!(decide (((n2 : Nat) : Int) = 0))) && (decide (0 < ((n1 : Nat) : Int)))) then (.int .i64 x_xs_0.kind) else undef)
      intro v100 (hv101 : v100 = bif ((!(decide (((n2 : Nat) : Int) = 0))) && (decide (0 < ((n1 : Nat) : Int)))) then (.int .i64 x_ys_0.kind) else undef)
      refine gather_nil ?_
      refine opg_t rfl rfl hv97 (fun hg102 => ?_) (fun h => by rw [h, cond_false])
      have hd103 := of_decide_eq_false (not_t (and_l hg102))
      have hd104 := of_decide_eq_true (and_r hg102)
      obtain rfl : v96 = .bool (decide (0 < ((n1 : Nat) : Int))) := by rw [hv97, (and_l hg102), cond_true]
      obtain rfl : v98 = .int .i64 x_xs_0.kind := by rw [hv99, hg102, cond_true]
      obtain rfl : v100 = .int .i64 x_ys_0.kind := by rw [hv101, hg102, cond_true]
      exact op_lss rfl rfl rfl ⟨told rfl rfl (by rw [hg102, cond_true]), (Below.refl _ _)⟩
    · intro W9 hW10
      rintro _ rfl
      intro v105 (hv106 : v105 = bif (!(decide (((n2 : Nat) : Int) = 0))) then (.bool (decide (0 < ((n1 : Nat) : Int)))) else undef)
      intro v107 (hv108 : v107 = bif ((!(decide (((n2 : Nat) : Int) = 0))) && (decide (0 < ((n1 : Nat) : Int)))) then (.bool (decide (x_xs_0.kind < x_ys_0.kind))) else undef)
      refine gather_nil ?_
      refine opg_f1 rfl rfl (fun hg109 => ?_) (fun h => by rw [h, cond_false])
      obtain rfl : v105 = .bool (decide (0 < ((n1 : Nat) : Int))) := by rw [hv106, hg109, cond_true]
      exact op_and rfl rfl rfl (fun h => by rw [hv108, (and_i hg109 h), cond_true]) rfl ⟨told rfl rfl (by rw [hg109, cond_true]), (Below.refl _ _)⟩
    · intro W9 hW10
      rintro _ rfl
      intro v110 (hv111 : v110 = bif (!(decide (((n2 : Nat) : Int) = 0))) then (.bool ((decide (0 < ((n1 : Nat) : Int))) && (decide (x_xs_0.kind < x_ys_0.kind)))) else undef)
      refine gather_nil ?_
      refine opg_none rfl ?_
      exact op_or rfl rfl rfl (fun h => by rw [hv111, (not_i h), cond_true]) rfl ⟨told rfl rfl rfl, (Below.refl _ _)⟩
    · intro W9 hW10
      rintro _ rfl
      refine gather_nil ?_
      refine opg_none rfl ?_
      exact op_assign rfl rfl ⟨told rfl rfl rfl, (Below.refl _ _)⟩
    intro W112 hW113
    rintro _ rfl
    rintro _ rfl
    rintro _ rfl
    rintro _ rfl
    rintro _ rfl
    rintro _ rfl
    refine gather_nil ?_
    refine (then_norm ?_)
    refine wc_cond (b := (decide (((n2 : Nat) : Int) = 0)) || ((decide (0 < ((n1 : Nat) : Int))) && (decide (x_xs_0.kind < x_ys_0.kind)))) rfl (fun hc114 => ?_) (fun hc114 => ?_)
    · obtain ⟨h0n, hov⟩ := overL_l hl1 hl2 hx_xs_0 hx_ys_0 HC0 hc114
      have hb115 : W112.heap[b6]? = some (.cells #[.int .i64 0, .int .i64 0] 46 (0, 0)) := (blk_ext hb8 hW113)
      refine wc_draw_tailS (sr_sb b6 (.cells #[.int .i64 0, .int .i64 0] 46 (0, 0)) (.cells #[.int .i64 x_xs_0.kind, .int .i64 x_xs_0.val] 46 (0, 0))) 6 mixed [(0, .func (.yield L) #[] #[]), (1, .pointer (some ⟨b1, 0, none⟩)), (2, .pointer (some ⟨b2, 0, none⟩)), (5, .slice A1 n1 c1), (6, .int .i64 ((n1 : Nat) : Int)), (7, .slice A2 n2 c2), (8, .int .i64 ((n2 : Nat) : Int)), (9, .int .i64 ((n1 + n2 : Nat) : Int)), (10, .bool (decide (0 < ((n1 + n2 : Nat) : Int)))), (4, .pointer (some ⟨b6, 0, none⟩)), (33, .slice A2 n2 c2), (34, .int .i64 ((n2 : Nat) : Int)), (35, .bool (decide (((n2 : Nat) : Int) = 0))), (36, .bool (decide (((n2 : Nat) : Int) = 0))), (51, .bool ((decide (((n2 : Nat) : Int) = 0)) || ((decide (0 < ((n1 : Nat) : Int))) && (decide (x_xs_0.kind < x_ys_0.kind))))), (32, .bool ((decide (((n2 : Nat) : Int) = 0)) || ((decide (0 < ((n1 : Nat) : Int))) && (decide (x_xs_0.kind < x_ys_0.kind)))))] ⟨rfl, rfl, rfl, rfl, rfl, rfl, rfl, rfl, rfl, rfl, rfl, rfl, rfl, rfl, rfl, rfl, trivial⟩ [fun v _ => v = .slice A1 n1 c1, fun v _ => v = .pointer (some ⟨bs14, os15 + 0 * 2, none⟩), fun v _ => v = .agg #[.int .i64 x_xs_0.kind, .int .i64 x_xs_0.val], fun v _ => v = .slice A1 n1 c1, fun v _ => v = .slice (if c1 = 1 then A1 else A1.map (·.add (1 * 2))) (n1 - 1) (c1 - 1), fun _ W => W.heap[b6]? = some (.cells #[.int .i64 x_xs_0.kind, .int .i64 x_xs_0.val] 46 (0, 0))] [[], [0], [1], [], [3], [2]] [0, 1, 2, 3, 4, 5] rfl rfl rfl rfl rfl rfl ⟨fun _ _ _ _ h => h, fun _ _ _ _ h => h, fun _ _ _ _ h => h, fun _ _ _ _ h => h, fun _ _ _ _ h => h, fun _ _ _ hS_ h => hS_.keep h, trivial⟩ ⟨?_, ?_, ?_, ?_, ?_, ?_, trivial⟩ ?_
      · intro W116 hW117
        refine gather_nil ?_
        refine opg_none rfl ?_
        have hne125 : b1 ≠ b6 := ne_new hb1 hN7
        have hb126 : W116.heap[b1]? = some (.cells #[.slice A1 n1 c1] 22 (0, 0)) := (but_blk (blk_ext (blk_ext hb1 hN7.ext) hW113) hW117.but (nin_cons hne125 nin_nil))
        exact op_load1 (v := .slice A1 n1 c1) rfl agg22 (cell_blk hb126 rfl) rfl ⟨told rfl rfl rfl, SB.refl⟩
      · intro W116 hW117
        rintro _ rfl
        refine gather_nil ?_
        refine opg_none rfl ?_
        exact op_indexAddr (j := 0) rfl rfl und22 sz46 (hA16 (by omega)) rfl (by omega) rfl ⟨told rfl rfl rfl, SB.refl⟩
      · intro W116 hW117
        rintro _ rfl
        refine gather_nil ?_
        refine opg_none rfl ?_
        have hB127 : Below w0.heap.size w0 W1 := (below_step (Below.refl _ _) hE3)
        have hB128 : Below w0.heap.size w0 W112 := (below_step (below_new (below_step (Below.refl _ _) hE3) hN7) hW113)
        have hB129 : Below w0.heap.size w0 W116 := (below_but (below_step (below_new (below_step (Below.refl _ _) hE3) hN7) hW113) hW117.but (ge_cons (Nat.le_trans hB127.size (Nat.le_of_eq hN7.eq.symm)) ge_nil) hB128.size)
        exact op_loadN (vs := [.int .i64 x_xs_0.kind, .int .i64 x_xs_0.val]) rfl agg46 sz46 rfl ((hc17 0 x_xs_0 (hx_xs_0 (by have := hx.len; omega))).ext hB129) rfl ⟨told rfl rfl rfl, SB.refl⟩
      · intro W116 hW117
        refine gather_nil ?_
        refine opg_none rfl ?_
        have hne130 : b1 ≠ b6 := ne_new hb1 hN7
        have hb131 : W116.heap[b1]? = some (.cells #[.slice A1 n1 c1] 22 (0, 0)) := (but_blk (blk_ext (blk_ext hb1 hN7.ext) hW113) hW117.but (nin_cons hne130 nin_nil))
        exact op_load1 (v := .slice A1 n1 c1) rfl agg22 (cell_blk hb131 rfl) rfl ⟨told rfl rfl rfl, SB.refl⟩
      · intro W116 hW117
        rintro _ rfl
        refine gather_nil ?_
        refine opg_none rfl ?_
        exact op_sliceLo (j := 1) rfl rfl und22 sz46 rfl (by omega) rfl ⟨told rfl rfl rfl, SB.refl⟩
      · intro W116 hW117
        rintro _ rfl
        refine gather_nil ?_
        refine opg_none rfl ?_
        rcases hW117.or hb115 with hq132 | hq132
        · refine op_storeW rfl rfl sz46 hq132 rfl rfl ?_
          intro W133 hP134 hb135
          exact ⟨told_n rfl hb135, SB.of_put hP134 hb135⟩
        · refine op_storeW rfl rfl sz46 hq132 rfl rfl ?_
          intro W136 hP137 hb138
          exact ⟨told_n rfl hb138, SB.of_put hP137 hb138⟩
      intro W139 hW140
      rintro _ rfl
      rintro _ rfl
      rintro _ rfl
      rintro _ rfl
      rintro _ rfl
      intro hb141
      refine gather_nil ?_
      have hne142 : b1 ≠ b6 := ne_new hb1 hN7
      have hb143 : W139.heap[b1]? = some (.cells #[.slice A1 n1 c1] 22 (0, 0)) := (but_blk (blk_ext (blk_ext hb1 hN7.ext) hW113) hW140.but (nin_cons hne142 nin_nil))
      refine wl_op rfl (op_storeW rfl rfl sz22 hb143 rfl rfl ?_)
      intro W144 hP145 hb146
      have hb146 : W144.heap[b1]? = some (.cells #[.slice (if c1 = 1 then A1 else A1.map (·.add (1 * 2))) (n1 - 1) (c1 - 1)] 22 (0, 0)) := hb146
      refine (wl_done (block_norm (then_norm ?_)))
      refine wc_seq ?_
      refine wc_region ?_
      refine wl_op rfl (op_move rfl rfl ?_)
      have hb147 : W144.heap[b6]? = some (.cells #[.int .i64 x_xs_0.kind, .int .i64 x_xs_0.val] 46 (0, 0)) := (hP145.blk hb141 hne142.symm)
      refine wl_op rfl (op_loadN (vs := [.int .i64 x_xs_0.kind, .int .i64 x_xs_0.val]) rfl agg46 sz46 rfl (cells_blk hb147) rfl ?_)
      refine wl_op rfl (op_yield rfl rfl rfl (hY pre x_xs_0 (overL (xs.drop 1) ys) _ (by rw [hS, hov]) (hJs _ _ _ hJ ((((But.of_below hN7.ext).trans (But.of_below hW113)).but_ge hW140.but (ge_cons (Nat.le_of_eq hN7.eq.symm) ge_nil) (show But [b1, b2] W1.heap.size W1 W112 from ((But.of_below hN7.ext).trans (But.of_below hW113))).size).trans (But.of_put hP145 (by simp))))) rfl ?_)
      rintro y149 W148 ⟨hlow150, hif151⟩
      refine wl_op rfl (op_not rfl rfl ?_)
      refine (wl_done (then_norm ?_))
      refine wc_cond (b := !y149) rfl (fun hc152 => ?_) (fun hc152 => ?_)
      · rw [not_t hc152, if_neg (by decide)] at hif151
        refine wc_ret ?_
        refine (block_ret (then_ret (block_ret ?_)))
        exact seq_ret (by rw [hS, hov]) hif151
      · rw [not_f hc152, if_pos rfl] at hif151
        refine wc_skip ?_
        refine (block_norm (then_norm ?_))
        have hB153 : Below w0.heap.size w0 W1 := (below_step (Below.refl _ _) hE3)
        have hB154 : Below w0.heap.size w0 W112 := (below_step (below_new (below_step (Below.refl _ _) hE3) hN7) hW113)
        have hB155 : Below w0.heap.size w0 w := (below_step (Below.refl _ _) hE0)
        have hB156 : Below w0.heap.size w0 W148 := (below_low (hP145.below (below_but (below_step (below_new (below_step (Below.refl _ _) hE3) hN7) hW113) hW140.but (ge_cons (Nat.le_trans hB153.size (Nat.le_of_eq hN7.eq.symm)) ge_nil) hB154.size) h1) hlow150 hB155.size)
        have hb157 : W148.heap[b1]? = some (.cells #[.slice (if c1 = 1 then A1 else A1.map (·.add (1 * 2))) (n1 - 1) (c1 - 1)] 22 (0, 0)) := (blk_low hb146 hlow150 (blk_lt hb1w))
        have hne158 : b2 ≠ b6 := ne_new hb2 hN7
        have hb159 : W148.heap[b2]? = some (.cells #[.slice A2 n2 c2] 22 (0, 0)) := (blk_low (hP145.blk (but_blk (blk_ext (blk_ext hb2 hN7.ext) hW113) hW140.but (nin_cons hne158 nin_nil)) hne.symm) hlow150 (blk_lt hb2w))
        refine ⟨((if c1 = 1 then A1 else A1.map (·.add (1 * 2))), (n1 - 1), (c1 - 1), (xs.drop 1), A2, n2, c2, ys, (pre ++ [x_xs_0]), W148), ⟨(rd_drop (j := 1) (c := c1) hx (by omega) (by omega)), (by dsimp only; omega), (hy), (by dsimp only; omega), (by dsimp only; rw [hS, hov, List.append_assoc]; rfl), (hb157), (hb159), (hif151), hB156⟩, ?_, ⟨rfl, rfl, rfl, trivial⟩, rfl⟩
        · dsimp only; omega
    · have HC1 := hc114
      have h0m := overL_r hl1 hl2 hx_xs_0 hx_ys_0 HC1
      refine wc_seq ?_
      refine wc_seq ?_
      refine wc_draw mixed [(0, .func (.yield L) #[] #[]), (1, .pointer (some ⟨b1, 0, none⟩)), (2, .pointer (some ⟨b2, 0, none⟩)), (5, .slice A1 n1 c1), (6, .int .i64 ((n1 : Nat) : Int)), (7, .slice A2 n2 c2), (8, .int .i64 ((n2 : Nat) : Int)), (9, .int .i64 ((n1 + n2 : Nat) : Int)), (10, .bool (decide (0 < ((n1 + n2 : Nat) : Int)))), (4, .pointer (some ⟨b6, 0, none⟩)), (33, .slice A2 n2 c2), (34, .int .i64 ((n2 : Nat) : Int)), (35, .bool (decide (((n2 : Nat) : Int) = 0))), (36, .bool (decide (((n2 : Nat) : Int) = 0))), (51, .bool ((decide (((n2 : Nat) : Int) = 0)) || ((decide (0 < ((n1 : Nat) : Int))) && (decide (x_xs_0.kind < x_ys_0.kind))))), (32, .bool ((decide (((n2 : Nat) : Int) = 0)) || ((decide (0 < ((n1 : Nat) : Int))) && (decide (x_xs_0.kind < x_ys_0.kind)))))] ⟨rfl, rfl, rfl, rfl, rfl, rfl, rfl, rfl, rfl, rfl, rfl, rfl, rfl, rfl, rfl, rfl, trivial⟩ [fun v _ => v = .slice A1 n1 c1, fun v _ => v = .int .i64 ((n1 : Nat) : Int), fun v _ => v = .bool (decide (0 < ((n1 : Nat) : Int))), fun v _ => v = .bool (decide (0 < ((n1 : Nat) : Int))), fun v _ => v = (bif (decide (0 < ((n1 : Nat) : Int))) then (.slice A1 n1 c1) else undef), fun v _ => v = (bif (decide (0 < ((n1 : Nat) : Int))) then (.pointer (some ⟨bs14, os15 + 0 * 2, none⟩)) else undef), fun v _ => v = (bif (decide (0 < ((n1 : Nat) : Int))) then (.pointer (some ⟨bs14, os15 + 0 * 2 + 0, none⟩)) else undef), fun v _ => v = (bif (decide (0 < ((n1 : Nat) : Int))) then (.int .i64 x_xs_0.kind) else undef), fun v _ => v = (bif (decide (0 < ((n1 : Nat) : Int))) then (.slice A2 n2 c2) else undef), fun v _ => v = (bif (decide (0 < ((n1 : Nat) : Int))) then (.pointer (some ⟨bs22, os23 + 0 * 2, none⟩)) else undef), fun v _ => v = (bif (decide (0 < ((n1 : Nat) : Int))) then (.pointer (some ⟨bs22, os23 + 0 * 2 + 0, none⟩)) else undef), fun v _ => v = (bif (decide (0 < ((n1 : Nat) : Int))) then (.int .i64 x_ys_0.kind) else undef), fun v _ => v = (bif (decide (0 < ((n1 : Nat) : Int))) then (.bool (decide (x_xs_0.kind = x_ys_0.kind))) else undef), fun v _ => v = .bool ((decide (0 < ((n1 : Nat) : Int))) && (decide (x_xs_0.kind = x_ys_0.kind)))] [[], [0], [1], [2], [3], [3, 4], [3, 5], [3, 6], [3], [3, 8], [3, 9], [3, 10], [3, 7, 11], [3, 12]] [0, 1, 2, 3, 13] rfl rfl rfl ⟨fun _ _ _ _ h => h, fun _ _ _ _ h => h, fun _ _ _ _ h => h, fun _ _ _ _ h => h, fun _ _ _ _ h => h, fun _ _ _ _ h => h, fun _ _ _ _ h => h, fun _ _ _ _ h => h, fun _ _ _ _ h => h, fun _ _ _ _ h => h, fun _ _ _ _ h => h, fun _ _ _ _ h => h, fun _ _ _ _ h => h, fun _ _ _ _ h => h, trivial⟩ ⟨?_, ?_, ?_, ?_, ?_, ?_, ?_, ?_, ?_, ?_, ?_, ?_, ?_, ?_, trivial⟩ ?_
      · intro W160 hW161
        refine gather_nil ?_
        refine opg_none rfl ?_
        have hb167 : W160.heap[b1]? = some (.cells #[.slice A1 n1 c1] 22 (0, 0)) := (blk_ext (blk_ext (blk_ext hb1 hN7.ext) hW113) hW161)
        exact op_load1 (v := .slice A1 n1 c1) rfl agg22 (cell_blk hb167 rfl) rfl ⟨told rfl rfl rfl, (Below.refl _ _)⟩
      · intro W160 hW161
        rintro _ rfl
        refine gather_nil ?_
        refine opg_none rfl ?_
        exact op_len_slice rfl rfl und22 rfl rfl ⟨told rfl rfl rfl, (Below.refl _ _)⟩
      · intro W160 hW161
        rintro _ rfl
        refine gather_nil ?_
        refine opg_none rfl ?_
        exact op_gtr rfl rfl rfl ⟨told rfl rfl rfl, (Below.refl _ _)⟩
      · intro W160 hW161
        rintro _ rfl
        refine gather_nil ?_
        refine opg_none rfl ?_
        exact op_move rfl rfl ⟨told rfl rfl rfl, (Below.refl _ _)⟩
      · intro W160 hW161
        rintro _ rfl
        refine gather_nil ?_
        refine opg_t1 rfl rfl (fun hg168 => ?_) (fun h => by rw [h, cond_false])
        have hd169 := of_decide_eq_true hg168
        have hb170 : W160.heap[b1]? = some (.cells #[.slice A1 n1 c1] 22 (0, 0)) := (blk_ext (blk_ext (blk_ext hb1 hN7.ext) hW113) hW161)
        exact op_load1 (v := .slice A1 n1 c1) rfl agg22 (cell_blk hb170 rfl) rfl ⟨told rfl rfl (by rw [hg168, cond_true]), (Below.refl _ _)⟩
      · intro W160 hW161
        rintro _ rfl
        intro v171 (hv172 : v171 = bif (decide (0 < ((n1 : Nat) : Int))) then (.slice A1 n1 c1) else undef)
        refine gather_nil ?_
        refine opg_t1 rfl rfl (fun hg173 => ?_) (fun h => by rw [h, cond_false])
        have hd174 := of_decide_eq_true hg173
        obtain rfl : v171 = .slice A1 n1 c1 := by rw [hv172, hg173, cond_true]
        exact op_indexAddr (j := 0) rfl rfl und22 sz46 (hA16 (by omega)) rfl (by omega) rfl ⟨told rfl rfl (by rw [hg173, cond_true]), (Below.refl _ _)⟩
      · intro W160 hW161
        rintro _ rfl
        intro v175 (hv176 : v175 = bif (decide (0 < ((n1 : Nat) : Int))) then (.pointer (some ⟨bs14, os15 + 0 * 2, none⟩)) else undef)
        refine gather_nil ?_
        refine opg_t1 rfl rfl (fun hg177 => ?_) (fun h => by rw [h, cond_false])
        obtain rfl : v175 = .pointer (some ⟨bs14, os15 + 0 * 2, none⟩) := by rw [hv176, hg177, cond_true]
        exact op_fieldAddr rfl fa46_0 rfl ⟨told rfl rfl (by rw [hg177, cond_true]), (Below.refl _ _)⟩
      · intro W160 hW161
        rintro _ rfl
        intro v178 (hv179 : v178 = bif (decide (0 < ((n1 : Nat) : Int))) then (.pointer (some ⟨bs14, os15 + 0 * 2 + 0, none⟩)) else undef)
        refine gather_nil ?_
        refine opg_t1 rfl rfl (fun hg180 => ?_) (fun h => by rw [h, cond_false])
        have hd181 := of_decide_eq_true hg180
        obtain rfl : v178 = .pointer (some ⟨bs14, os15 + 0 * 2 + 0, none⟩) := by rw [hv179, hg180, cond_true]
        have hB182 : Below w0.heap.size w0 W160 := (below_step (below_step (below_new (below_step (Below.refl _ _) hE3) hN7) hW113) hW161)
        exact op_load1 (v := .int .i64 x_xs_0.kind) rfl agg3 (((hc17 0 x_xs_0 (hx_xs_0 (by have := hx.len; omega))).ext hB182).at (i := 0) rfl) rfl ⟨told rfl rfl (by rw [hg180, cond_true]), (Below.refl _ _)⟩
      · intro W160 hW161
        rintro _ rfl
        refine gather_nil ?_
        refine opg_t1 rfl rfl (fun hg183 => ?_) (fun h => by rw [h, cond_false])
        have hd184 := of_decide_eq_true hg183
        have hb185 : W160.heap[b2]? = some (.cells #[.slice A2 n2 c2] 22 (0, 0)) := (blk_ext (blk_ext (blk_ext hb2 hN7.ext) hW113) hW161)
        exact op_load1 (v := .slice A2 n2 c2) rfl agg22 (cell_blk hb185 rfl) rfl ⟨told rfl rfl (by rw [hg183, cond_true]), (Below.refl _ _)⟩
      · intro W160 hW161
        rintro _ rfl
        intro v186 (hv187 : v186 = bif (decide (0 < ((n1 : Nat) : Int))) then (.slice A2 n2 c2) else undef)
        refine gather_nil ?_
        refine opg_t1 rfl rfl (fun hg188 => ?_) (fun h => by rw [h, cond_false])
        have hd189 := of_decide_eq_true hg188
        obtain rfl : v186 = .slice A2 n2 c2 := by rw [hv187, hg188, cond_true]
        exact op_indexAddr (j := 0) rfl rfl und22 sz46 (hA24 (by omega)) rfl (by omega) rfl ⟨told rfl rfl (by rw [hg188, cond_true]), (Below.refl _ _)⟩
      · intro W160 hW161
        rintro _ rfl
        intro v190 (hv191 : v190 = bif (decide (0 < ((n1 : Nat) : Int))) then (.pointer (some ⟨bs22, os23 + 0 * 2, none⟩)) else undef)
        refine gather_nil ?_
        refine opg_t1 rfl rfl (fun hg192 => ?_) (fun h => by rw [h, cond_false])
        obtain rfl : v190 = .pointer (some ⟨bs22, os23 + 0 * 2, none⟩) := by rw [hv191, hg192, cond_true]
        exact op_fieldAddr rfl fa46_0 rfl ⟨told rfl rfl (by rw [hg192, cond_true]), (Below.refl _ _)⟩
      · intro W160 hW161
        rintro _ rfl
        intro v193 (hv194 : v193 = bif (decide (0 < ((n1 : Nat) : Int))) then (.pointer (some ⟨bs22, os23 + 0 * 2 + 0, none⟩)) else undef)
        refine gather_nil ?_
        refine opg_t1 rfl rfl (fun hg195 => ?_) (fun h => by rw [h, cond_false])
        have hd196 := of_decide_eq_true hg195
        obtain rfl : v193 = .pointer (some ⟨bs22, os23 + 0 * 2 + 0, none⟩) := by rw [hv194, hg195, cond_true]
        have hB197 : Below w0.heap.size w0 W160 := (below_step (below_step (below_new (below_step (Below.refl _ _) hE3) hN7) hW113) hW161)
        exact op_load1 (v := .int .i64 x_ys_0.kind) rfl agg3 (((hc25 0 x_ys_0 (hx_ys_0 (by have := hy.len; omega))).ext hB197).at (i := 0) rfl) rfl ⟨told rfl rfl (by rw [hg195, cond_true]), (Below.refl _ _)⟩
      · intro W160 hW161
        rintro _ rfl
        intro v198 (hv199 : v198 = bif (decide (0 < ((n1 : Nat) : Int))) then (.int .i64 x_xs_0.kind) else undef)
        intro v200 (hv201 : v200 = bif (decide (0 < ((n1 : Nat) : Int))) then (.int .i64 x_ys_0.kind) else undef)
        refine gather_nil ?_
        refine opg_t1 rfl rfl (fun hg202 => ?_) (fun h => by rw [h, cond_false])
        have hd203 := of_decide_eq_true hg202
        obtain rfl : v198 = .int .i64 x_xs_0.kind := by rw [hv199, hg202, cond_true]
        obtain rfl : v200 = .int .i64 x_ys_0.kind := by rw [hv201, hg202, cond_true]
        exact op_eql rfl rfl rfl ⟨told rfl rfl (by rw [hg202, cond_true]), (Below.refl _ _)⟩
      · intro W160 hW161
        rintro _ rfl
        intro v204 (hv205 : v204 = bif (decide (0 < ((n1 : Nat) : Int))) then (.bool (decide (x_xs_0.kind = x_ys_0.kind))) else undef)
        refine gather_nil ?_
        refine opg_none rfl ?_
        exact op_and rfl rfl rfl (fun h => by rw [hv205, h, cond_true]) rfl ⟨told rfl rfl rfl, (Below.refl _ _)⟩
      intro W206 hW207
      rintro _ rfl
      rintro _ rfl
      rintro _ rfl
      rintro _ rfl
      rintro _ rfl
      refine gather_nil ?_
      refine (then_norm ?_)
      refine wc_cond (b := (decide (0 < ((n1 : Nat) : Int))) && (decide (x_xs_0.kind = x_ys_0.kind))) rfl (fun hc208 => ?_) (fun hc208 => ?_)
      · obtain ⟨h0n, hov⟩ := overL_eq hl1 hl2 hx_xs_0 hx_ys_0 h0m hc208
        refine wc_region ?_
        have hb209 : W206.heap[b1]? = some (.cells #[.slice A1 n1 c1] 22 (0, 0)) := (blk_ext (blk_ext (blk_ext hb1 hN7.ext) hW113) hW207)
        refine wl_op rfl (op_load1 (v := .slice A1 n1 c1) rfl agg22 (cell_blk hb209 rfl) rfl ?_)
        refine wl_op rfl (op_sliceLo (j := 1) rfl rfl und22 sz46 rfl (by omega) rfl ?_)
        refine wl_op rfl (op_storeW rfl rfl sz22 hb209 rfl rfl ?_)
        intro W210 hP211 hb212
        have hb212 : W210.heap[b1]? = some (.cells #[.slice (if c1 = 1 then A1 else A1.map (·.add (1 * 2))) (n1 - 1) (c1 - 1)] 22 (0, 0)) := hb212
        refine (wl_done (then_norm ?_))
        have hne213 : b1 ≠ b6 := ne_new hb1 hN7
        have hb214 : W210.heap[b6]? = some (.cells #[.int .i64 0, .int .i64 0] 46 (0, 0)) := (hP211.blk (blk_ext (blk_ext hb8 hW113) hW207) hne213.symm)
        refine wc_draw_tailS (sr_sb b6 (.cells #[.int .i64 0, .int .i64 0] 46 (0, 0)) (.cells #[.int .i64 x_ys_0.kind, .int .i64 x_ys_0.val] 46 (0, 0))) 6 mixed [(0, .func (.yield L) #[] #[]), (1, .pointer (some ⟨b1, 0, none⟩)), (2, .pointer (some ⟨b2, 0, none⟩)), (5, .slice A1 n1 c1), (6, .int .i64 ((n1 : Nat) : Int)), (7, .slice A2 n2 c2), (8, .int .i64 ((n2 : Nat) : Int)), (9, .int .i64 ((n1 + n2 : Nat) : Int)), (10, .bool (decide (0 < ((n1 + n2 : Nat) : Int)))), (4, .pointer (some ⟨b6, 0, none⟩)), (33, .slice A2 n2 c2), (34, .int .i64 ((n2 : Nat) : Int)), (35, .bool (decide (((n2 : Nat) : Int) = 0))), (36, .bool (decide (((n2 : Nat) : Int) = 0))), (51, .bool ((decide (((n2 : Nat) : Int) = 0)) || ((decide (0 < ((n1 : Nat) : Int))) && (decide (x_xs_0.kind < x_ys_0.kind))))), (32, .bool ((decide (((n2 : Nat) : Int) = 0)) || ((decide (0 < ((n1 : Nat) : Int))) && (decide (x_xs_0.kind < x_ys_0.kind))))), (11, .slice A1 n1 c1), (12, .int .i64 ((n1 : Nat) : Int)), (13, .bool (decide (0 < ((n1 : Nat) : Int)))), (14, .bool (decide (0 < ((n1 : Nat) : Int)))), (24, .bool ((decide (0 < ((n1 : Nat) : Int))) && (decide (x_xs_0.kind = x_ys_0.kind)))), (25, .slice A1 n1 c1), (26, .slice (if c1 = 1 then A1 else A1.map (·.add (1 * 2))) (n1 - 1) (c1 - 1))] ⟨rfl, rfl, rfl, rfl, rfl, rfl, rfl, rfl, rfl, rfl, rfl, rfl, rfl, rfl, rfl, rfl, rfl, rfl, rfl, rfl, rfl, rfl, rfl, trivial⟩ [fun v _ => v = .slice A2 n2 c2, fun v _ => v = .pointer (some ⟨bs22, os23 + 0 * 2, none⟩), fun v _ => v = .agg #[.int .i64 x_ys_0.kind, .int .i64 x_ys_0.val], fun v _ => v = .slice A2 n2 c2, fun v _ => v = .slice (if c2 = 1 then A2 else A2.map (·.add (1 * 2))) (n2 - 1) (c2 - 1), fun _ W => W.heap[b6]? = some (.cells #[.int .i64 x_ys_0.kind, .int .i64 x_ys_0.val] 46 (0, 0))] [[], [0], [1], [], [3], [2]] [0, 1, 2, 3, 4, 5] rfl rfl rfl rfl rfl rfl ⟨fun _ _ _ _ h => h, fun _ _ _ _ h => h, fun _ _ _ _ h => h, fun _ _ _ _ h => h, fun _ _ _ _ h => h, fun _ _ _ hS_ h => hS_.keep h, trivial⟩ ⟨?_, ?_, ?_, ?_, ?_, ?_, trivial⟩ ?_
        · intro W215 hW216
          refine gather_nil ?_
          refine opg_none rfl ?_
          have hne224 : b2 ≠ b6 := ne_new hb2 hN7
          have hb225 : W215.heap[b2]? = some (.cells #[.slice A2 n2 c2] 22 (0, 0)) := (but_blk (hP211.blk (blk_ext (blk_ext (blk_ext hb2 hN7.ext) hW113) hW207) hne.symm) hW216.but (nin_cons hne224 nin_nil))
          exact op_load1 (v := .slice A2 n2 c2) rfl agg22 (cell_blk hb225 rfl) rfl ⟨told rfl rfl rfl, SB.refl⟩
        · intro W215 hW216
          rintro _ rfl
          refine gather_nil ?_
          refine opg_none rfl ?_
          exact op_indexAddr (j := 0) rfl rfl und22 sz46 (hA24 (by omega)) rfl (by omega) rfl ⟨told rfl rfl rfl, SB.refl⟩
        · intro W215 hW216
          rintro _ rfl
          refine gather_nil ?_
          refine opg_none rfl ?_
          have hB226 : Below w0.heap.size w0 W1 := (below_step (Below.refl _ _) hE3)
          have hB227 : Below w0.heap.size w0 W210 := (hP211.below (below_step (below_step (below_new (below_step (Below.refl _ _) hE3) hN7) hW113) hW207) h1)
          have hB228 : Below w0.heap.size w0 W215 := (below_but (hP211.below (below_step (below_step (below_new (below_step (Below.refl _ _) hE3) hN7) hW113) hW207) h1) hW216.but (ge_cons (Nat.le_trans hB226.size (Nat.le_of_eq hN7.eq.symm)) ge_nil) hB227.size)
          exact op_loadN (vs := [.int .i64 x_ys_0.kind, .int .i64 x_ys_0.val]) rfl agg46 sz46 rfl ((hc25 0 x_ys_0 (hx_ys_0 (by have := hy.len; omega))).ext hB228) rfl ⟨told rfl rfl rfl, SB.refl⟩
        · intro W215 hW216
          refine gather_nil ?_
          refine opg_none rfl ?_
          have hne229 : b2 ≠ b6 := ne_new hb2 hN7
          have hb230 : W215.heap[b2]? = some (.cells #[.slice A2 n2 c2] 22 (0, 0)) := (but_blk (hP211.blk (blk_ext (blk_ext (blk_ext hb2 hN7.ext) hW113) hW207) hne.symm) hW216.but (nin_cons hne229 nin_nil))
          exact op_load1 (v := .slice A2 n2 c2) rfl agg22 (cell_blk hb230 rfl) rfl ⟨told rfl rfl rfl, SB.refl⟩
        · intro W215 hW216
          rintro _ rfl
          refine gather_nil ?_
          refine opg_none rfl ?_
          exact op_sliceLo (j := 1) rfl rfl und22 sz46 rfl (by omega) rfl ⟨told rfl rfl rfl, SB.refl⟩
        · intro W215 hW216
          rintro _ rfl
          refine gather_nil ?_
          refine opg_none rfl ?_
          rcases hW216.or hb214 with hq231 | hq231
          · refine op_storeW rfl rfl sz46 hq231 rfl rfl ?_
            intro W232 hP233 hb234
            exact ⟨told_n rfl hb234, SB.of_put hP233 hb234⟩
          · refine op_storeW rfl rfl sz46 hq231 rfl rfl ?_
            intro W235 hP236 hb237
            exact ⟨told_n rfl hb237, SB.of_put hP236 hb237⟩
        intro W238 hW239
        rintro _ rfl
        rintro _ rfl
        rintro _ rfl
        rintro _ rfl
        rintro _ rfl
        intro hb240
        refine gather_nil ?_
        have hne241 : b2 ≠ b6 := ne_new hb2 hN7
        have hb242 : W238.heap[b2]? = some (.cells #[.slice A2 n2 c2] 22 (0, 0)) := (but_blk (hP211.blk (blk_ext (blk_ext (blk_ext hb2 hN7.ext) hW113) hW207) hne.symm) hW239.but (nin_cons hne241 nin_nil))
        refine wl_op rfl (op_storeW rfl rfl sz22 hb242 rfl rfl ?_)
        intro W243 hP244 hb245
        have hb245 : W243.heap[b2]? = some (.cells #[.slice (if c2 = 1 then A2 else A2.map (·.add (1 * 2))) (n2 - 1) (c2 - 1)] 22 (0, 0)) := hb245
        refine (wl_done (block_norm (then_norm ?_)))
        refine wc_seq ?_
        refine wc_region ?_
        refine wl_op rfl (op_move rfl rfl ?_)
        have hb246 : W243.heap[b6]? = some (.cells #[.int .i64 x_ys_0.kind, .int .i64 x_ys_0.val] 46 (0, 0)) := (hP244.blk hb240 hne241.symm)
        refine wl_op rfl (op_loadN (vs := [.int .i64 x_ys_0.kind, .int .i64 x_ys_0.val]) rfl agg46 sz46 rfl (cells_blk hb246) rfl ?_)
        refine wl_op rfl (op_yield rfl rfl rfl (hY pre x_ys_0 (overL (xs.drop 1) (ys.drop 1)) _ (by rw [hS, hov]) (hJs _ _ _ hJ ((((((But.of_below hN7.ext).trans (But.of_below hW113)).trans (But.of_below hW207)).trans (But.of_put hP211 (by simp))).but_ge hW239.but (ge_cons (Nat.le_of_eq hN7.eq.symm) ge_nil) (show But [b1, b2] W1.heap.size W1 W210 from ((((But.of_below hN7.ext).trans (But.of_below hW113)).trans (But.of_below hW207)).trans (But.of_put hP211 (by simp)))).size).trans (But.of_put hP244 (by simp))))) rfl ?_)
        rintro y248 W247 ⟨hlow249, hif250⟩
        refine wl_op rfl (op_not rfl rfl ?_)
        refine (wl_done (then_norm ?_))
        refine wc_cond (b := !y248) rfl (fun hc251 => ?_) (fun hc251 => ?_)
        · rw [not_t hc251, if_neg (by decide)] at hif250
          refine wc_ret ?_
          refine (block_ret (then_ret (block_ret ?_)))
          exact seq_ret (by rw [hS, hov]) hif250
        · rw [not_f hc251, if_pos rfl] at hif250
          refine wc_skip ?_
          refine (block_norm (then_norm ?_))
          have hB252 : Below w0.heap.size w0 W1 := (below_step (Below.refl _ _) hE3)
          have hB253 : Below w0.heap.size w0 W210 := (hP211.below (below_step (below_step (below_new (below_step (Below.refl _ _) hE3) hN7) hW113) hW207) h1)
          have hB254 : Below w0.heap.size w0 w := (below_step (Below.refl _ _) hE0)
          have hB255 : Below w0.heap.size w0 W247 := (below_low (hP244.below (below_but (hP211.below (below_step (below_step (below_new (below_step (Below.refl _ _) hE3) hN7) hW113) hW207) h1) hW239.but (ge_cons (Nat.le_trans hB252.size (Nat.le_of_eq hN7.eq.symm)) ge_nil) hB253.size) h2) hlow249 hB254.size)
          have hb256 : W247.heap[b1]? = some (.cells #[.slice (if c1 = 1 then A1 else A1.map (·.add (1 * 2))) (n1 - 1) (c1 - 1)] 22 (0, 0)) := (blk_low (hP244.blk (but_blk hb212 hW239.but (nin_cons hne213 nin_nil)) hne) hlow249 (blk_lt hb1w))
          have hb257 : W247.heap[b2]? = some (.cells #[.slice (if c2 = 1 then A2 else A2.map (·.add (1 * 2))) (n2 - 1) (c2 - 1)] 22 (0, 0)) := (blk_low hb245 hlow249 (blk_lt hb2w))
          refine ⟨((if c1 = 1 then A1 else A1.map (·.add (1 * 2))), (n1 - 1), (c1 - 1), (xs.drop 1), (if c2 = 1 then A2 else A2.map (·.add (1 * 2))), (n2 - 1), (c2 - 1), (ys.drop 1), (pre ++ [x_ys_0]), W247), ⟨(rd_drop (j := 1) (c := c1) hx (by omega) (by omega)), (by dsimp only; omega), (rd_drop (j := 1) (c := c2) hy (by omega) (by omega)), (by dsimp only; omega), (by dsimp only; rw [hS, hov, List.append_assoc]; rfl), (hb256), (hb257), (hif250), hB255⟩, ?_, ⟨rfl, rfl, rfl, trivial⟩, rfl⟩
          · dsimp only; omega
      · have hov := overL_gt hl1 hl2 hx_xs_0 hx_ys_0 h0m HC1 hc208
        refine wc_skip ?_
        refine (then_norm ?_)
        have hb258 : W206.heap[b6]? = some (.cells #[.int .i64 0, .int .i64 0] 46 (0, 0)) := (blk_ext (blk_ext hb8 hW113) hW207)
        refine wc_draw_tailS (sr_sb b6 (.cells #[.int .i64 0, .int .i64 0] 46 (0, 0)) (.cells #[.int .i64 x_ys_0.kind, .int .i64 x_ys_0.val] 46 (0, 0))) 6 mixed [(0, .func (.yield L) #[] #[]), (1, .pointer (some ⟨b1, 0, none⟩)), (2, .pointer (some ⟨b2, 0, none⟩)), (5, .slice A1 n1 c1), (6, .int .i64 ((n1 : Nat) : Int)), (7, .slice A2 n2 c2), (8, .int .i64 ((n2 : Nat) : Int)), (9, .int .i64 ((n1 + n2 : Nat) : Int)), (10, .bool (decide (0 < ((n1 + n2 : Nat) : Int)))), (4, .pointer (some ⟨b6, 0, none⟩)), (33, .slice A2 n2 c2), (34, .int .i64 ((n2 : Nat) : Int)), (35, .bool (decide (((n2 : Nat) : Int) = 0))), (36, .bool (decide (((n2 : Nat) : Int) = 0))), (51, .bool ((decide (((n2 : Nat) : Int) = 0)) || ((decide (0 < ((n1 : Nat) : Int))) && (decide (x_xs_0.kind < x_ys_0.kind))))), (32, .bool ((decide (((n2 : Nat) : Int) = 0)) || ((decide (0 < ((n1 : Nat) : Int))) && (decide (x_xs_0.kind < x_ys_0.kind))))), (11, .slice A1 n1 c1), (12, .int .i64 ((n1 : Nat) : Int)), (13, .bool (decide (0 < ((n1 : Nat) : Int)))), (14, .bool (decide (0 < ((n1 : Nat) : Int)))), (24, .bool ((decide (0 < ((n1 : Nat) : Int))) && (decide (x_xs_0.kind = x_ys_0.kind))))] ⟨rfl, rfl, rfl, rfl, rfl, rfl, rfl, rfl, rfl, rfl, rfl, rfl, rfl, rfl, rfl, rfl, rfl, rfl, rfl, rfl, rfl, trivial⟩ [fun v _ => v = .slice A2 n2 c2, fun v _ => v = .pointer (some ⟨bs22, os23 + 0 * 2, none⟩), fun v _ => v = .agg #[.int .i64 x_ys_0.kind, .int .i64 x_ys_0.val], fun v _ => v = .slice A2 n2 c2, fun v _ => v = .slice (if c2 = 1 then A2 else A2.map (·.add (1 * 2))) (n2 - 1) (c2 - 1), fun _ W => W.heap[b6]? = some (.cells #[.int .i64 x_ys_0.kind, .int .i64 x_ys_0.val] 46 (0, 0))] [[], [0], [1], [], [3], [2]] [0, 1, 2, 3, 4, 5] rfl rfl rfl rfl rfl rfl ⟨fun _ _ _ _ h => h, fun _ _ _ _ h => h, fun _ _ _ _ h => h, fun _ _ _ _ h => h, fun _ _ _ _ h => h, fun _ _ _ hS_ h => hS_.keep h, trivial⟩ ⟨?_, ?_, ?_, ?_, ?_, ?_, trivial⟩ ?_
        · intro W259 hW260
          refine gather_nil ?_
          refine opg_none rfl ?_
          have hne268 : b2 ≠ b6 := ne_new hb2 hN7
          have hb269 : W259.heap[b2]? = some (.cells #[.slice A2 n2 c2] 22 (0, 0)) := (but_blk (blk_ext (blk_ext (blk_ext hb2 hN7.ext) hW113) hW207) hW260.but (nin_cons hne268 nin_nil))
          exact op_load1 (v := .slice A2 n2 c2) rfl agg22 (cell_blk hb269 rfl) rfl ⟨told rfl rfl rfl, SB.refl⟩
        · intro W259 hW260
          rintro _ rfl
          refine gather_nil ?_
          refine opg_none rfl ?_
          exact op_indexAddr (j := 0) rfl rfl und22 sz46 (hA24 (by omega)) rfl (by omega) rfl ⟨told rfl rfl rfl, SB.refl⟩
        · intro W259 hW260
          rintro _ rfl
          refine gather_nil ?_
          refine opg_none rfl ?_
          have hB270 : Below w0.heap.size w0 W1 := (below_step (Below.refl _ _) hE3)
          have hB271 : Below w0.heap.size w0 W206 := (below_step (below_step (below_new (below_step (Below.refl _ _) hE3) hN7) hW113) hW207)
          have hB272 : Below w0.heap.size w0 W259 := (below_but (below_step (below_step (below_new (below_step (Below.refl _ _) hE3) hN7) hW113) hW207) hW260.but (ge_cons (Nat.le_trans hB270.size (Nat.le_of_eq hN7.eq.symm)) ge_nil) hB271.size)
          exact op_loadN (vs := [.int .i64 x_ys_0.kind, .int .i64 x_ys_0.val]) rfl agg46 sz46 rfl ((hc25 0 x_ys_0 (hx_ys_0 (by have := hy.len; omega))).ext hB272) rfl ⟨told rfl rfl rfl, SB.refl⟩
        · intro W259 hW260
          refine gather_nil ?_
          refine opg_none rfl ?_
          have hne273 : b2 ≠ b6 := ne_new hb2 hN7
          have hb274 : W259.heap[b2]? = some (.cells #[.slice A2 n2 c2] 22 (0, 0)) := (but_blk (blk_ext (blk_ext (blk_ext hb2 hN7.ext) hW113) hW207) hW260.but (nin_cons hne273 nin_nil))
          exact op_load1 (v := .slice A2 n2 c2) rfl agg22 (cell_blk hb274 rfl) rfl ⟨told rfl rfl rfl, SB.refl⟩
        · intro W259 hW260
          rintro _ rfl
          refine gather_nil ?_
          refine opg_none rfl ?_
          exact op_sliceLo (j := 1) rfl rfl und22 sz46 rfl (by omega) rfl ⟨told rfl rfl rfl, SB.refl⟩
        · intro W259 hW260
          rintro _ rfl
          refine gather_nil ?_
          refine opg_none rfl ?_
          rcases hW260.or hb258 with hq275 | hq275
          · refine op_storeW rfl rfl sz46 hq275 rfl rfl ?_
            intro W276 hP277 hb278
            exact ⟨told_n rfl hb278, SB.of_put hP277 hb278⟩
          · refine op_storeW rfl rfl sz46 hq275 rfl rfl ?_
            intro W279 hP280 hb281
            exact ⟨told_n rfl hb281, SB.of_put hP280 hb281⟩
        intro W282 hW283
        rintro _ rfl
        rintro _ rfl
        rintro _ rfl
        rintro _ rfl
        rintro _ rfl
        intro hb284
        refine gather_nil ?_
        have hne285 : b2 ≠ b6 := ne_new hb2 hN7
        have hb286 : W282.heap[b2]? = some (.cells #[.slice A2 n2 c2] 22 (0, 0)) := (but_blk (blk_ext (blk_ext (blk_ext hb2 hN7.ext) hW113) hW207) hW283.but (nin_cons hne285 nin_nil))
        refine wl_op rfl (op_storeW rfl rfl sz22 hb286 rfl rfl ?_)
        intro W287 hP288 hb289
        have hb289 : W287.heap[b2]? = some (.cells #[.slice (if c2 = 1 then A2 else A2.map (·.add (1 * 2))) (n2 - 1) (c2 - 1)] 22 (0, 0)) := hb289
        refine (wl_done (block_norm (then_norm ?_)))
        refine wc_seq ?_
        refine wc_region ?_
        refine wl_op rfl (op_move rfl rfl ?_)
        have hb290 : W287.heap[b6]? = some (.cells #[.int .i64 x_ys_0.kind, .int .i64 x_ys_0.val] 46 (0, 0)) := (hP288.blk hb284 hne285.symm)
        refine wl_op rfl (op_loadN (vs := [.int .i64 x_ys_0.kind, .int .i64 x_ys_0.val]) rfl agg46 sz46 rfl (cells_blk hb290) rfl ?_)
        refine wl_op rfl (op_yield rfl rfl rfl (hY pre x_ys_0 (overL xs (ys.drop 1)) _ (by rw [hS, hov]) (hJs _ _ _ hJ (((((But.of_below hN7.ext).trans (But.of_below hW113)).trans (But.of_below hW207)).but_ge hW283.but (ge_cons (Nat.le_of_eq hN7.eq.symm) ge_nil) (show But [b1, b2] W1.heap.size W1 W206 from (((But.of_below hN7.ext).trans (But.of_below hW113)).trans (But.of_below hW207))).size).trans (But.of_put hP288 (by simp))))) rfl ?_)
        rintro y292 W291 ⟨hlow293, hif294⟩
        refine wl_op rfl (op_not rfl rfl ?_)
        refine (wl_done (then_norm ?_))
        refine wc_cond (b := !y292) rfl (fun hc295 => ?_) (fun hc295 => ?_)
        · rw [not_t hc295, if_neg (by decide)] at hif294
          refine wc_ret ?_
          refine (block_ret (then_ret (block_ret ?_)))
          exact seq_ret (by rw [hS, hov]) hif294
        · rw [not_f hc295, if_pos rfl] at hif294
          refine wc_skip ?_
          refine (block_norm (then_norm ?_))
          have hB296 : Below w0.heap.size w0 W1 := (below_step (Below.refl _ _) hE3)
          have hB297 : Below w0.heap.size w0 W206 := (below_step (below_step (below_new (below_step (Below.refl _ _) hE3) hN7) hW113) hW207)
          have hB298 : Below w0.heap.size w0 w := (below_step (Below.refl _ _) hE0)
          have hB299 : Below w0.heap.size w0 W291 := (below_low (hP288.below (below_but (below_step (below_step (below_new (below_step (Below.refl _ _) hE3) hN7) hW113) hW207) hW283.but (ge_cons (Nat.le_trans hB296.size (Nat.le_of_eq hN7.eq.symm)) ge_nil) hB297.size) h2) hlow293 hB298.size)
          have hne300 : b1 ≠ b6 := ne_new hb1 hN7
          have hb301 : W291.heap[b1]? = some (.cells #[.slice A1 n1 c1] 22 (0, 0)) := (blk_low (hP288.blk (but_blk (blk_ext (blk_ext (blk_ext hb1 hN7.ext) hW113) hW207) hW283.but (nin_cons hne300 nin_nil)) hne) hlow293 (blk_lt hb1w))
          have hb302 : W291.heap[b2]? = some (.cells #[.slice (if c2 = 1 then A2 else A2.map (·.add (1 * 2))) (n2 - 1) (c2 - 1)] 22 (0, 0)) := (blk_low hb289 hlow293 (blk_lt hb2w))
          refine ⟨(A1, n1, c1, xs, (if c2 = 1 then A2 else A2.map (·.add (1 * 2))), (n2 - 1), (c2 - 1), (ys.drop 1), (pre ++ [x_ys_0]), W291), ⟨(hx), (by dsimp only; omega), (rd_drop (j := 1) (c := c2) hy (by omega) (by omega)), (by dsimp only; omega), (by dsimp only; rw [hS, hov, List.append_assoc]; rfl), (hb301), (hb302), (hif294), hB299⟩, ?_, ⟨rfl, rfl, rfl, trivial⟩, rfl⟩
          · dsimp only; omega
  · have hc4r := hc4
    have hc4 := of_decide_eq_false hc4
    have HC0 := hc4
    refine wc_exit ?_
    refine (then_exit (then_exit (block_here ?_)))
    exact seq_done (by rw [hS, over_end hl1 hl2 HC0, List.append_nil]; exact hJ)

end Go.Eng
