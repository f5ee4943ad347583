/- Lemmas for a law of the seat: what functions of the program do, each stated as a contract of its own (module S18t). -/
import Derived.Test.YtbjafckcpkhoaaaS18s
import Derived.Test.YtbjafckcpkhoaaaEngF
import Derived.Test.YtbjafckcpkhoaaaEngH
import Derived.Test.YtbjafckcpkhoaaaChecked
set_option linter.unusedVariables false
set_option maxRecDepth 100000
namespace Go.Eng
open Go.RowKit Go.Shelf Go.Proofs Pol



def lastOf (l : List Pol) (q : Int) : Option Pol := (l.filter (fun p => decide (p.kind = q))).getLast?
def gathK (l : List Pol) (k : Nat) : List Pol := (List.range k).filterMap (fun i : Nat => lastOf l ((i : Int) + 1))
abbrev gath (l : List Pol) : List Pol := gathK l 13
theorem gathK_len (l : List Pol) (k : Nat) : (gathK l k).length ≤ k := by
  have := List.length_filterMap_le (fun i : Nat => lastOf l ((i : Int) + 1)) (List.range k)
  simpa [gathK] using this
theorem gathK_some {l : List Pol} {k : Nat} {x : Pol} (h : lastOf l ((k : Int) + 1) = some x) : gathK l (k + 1) = gathK l k ++ [x] := by
  rw [gathK, List.range_succ, List.filterMap_append]; simp [h, gathK]
theorem gathK_none {l : List Pol} {k : Nat} (h : lastOf l ((k : Int) + 1) = none) : gathK l (k + 1) = gathK l k := by
  rw [gathK, List.range_succ, List.filterMap_append]; simp [h, gathK]
theorem lastOf_some {l : List Pol} {q : Int} {j : Nat} {x : Pol} (hx : l[j]? = some x) (hk : x.kind = q) (h : ∀ (i : Nat) (y : Pol), j < i → l[i]? = some y → ¬ y.kind = q) : lastOf l q = some x := by
  obtain ⟨hj, hxe⟩ := List.getElem?_eq_some_iff.1 hx
  have e : l = l.take j ++ x :: l.drop (j + 1) := by rw [← hxe, ← List.drop_eq_getElem_cons hj, List.take_append_drop]
  have hd : (l.drop (j + 1)).filter (fun p => decide (p.kind = q)) = [] := by
    rw [List.filter_eq_nil_iff]
    intro y hy
    obtain ⟨i, hi, rfl⟩ := List.getElem_of_mem hy
    have := h (j + 1 + i) _ (by omega) (by rw [← List.getElem?_drop, List.getElem?_eq_getElem hi])
    simpa using this
  have hf : l.filter (fun p => decide (p.kind = q)) = (l.take j).filter (fun p => decide (p.kind = q)) ++ [x] := by
    rw [congrArg (List.filter (fun p : Pol => decide (p.kind = q))) e, List.filter_append, List.filter_cons_of_pos (by simpa using hk), hd]
  unfold lastOf
  rw [hf]; simp
theorem lastOf_none {l : List Pol} {q : Int} (h : ∀ (i : Nat) (y : Pol), l[i]? = some y → ¬ y.kind = q) : lastOf l q = none := by
  have hd : l.filter (fun p => decide (p.kind = q)) = [] := by
    rw [List.filter_eq_nil_iff]
    intro y hy
    obtain ⟨i, hi, rfl⟩ := List.getElem_of_mem hy
    simpa using h i _ (List.getElem?_eq_getElem hi)
  unfold lastOf; rw [hd]; rfl

theorem gathered_spec {w : World} {A : Option Addr} {n c : Nat} {l : List Pol} (hs : RdP w A n l) : Ret Try.prog 55 #[.slice A n c] w (fun v w' => ∃ (A1 : Option Addr) (n1 c1 : Nat), v = .slice A1 n1 c1 ∧ RdP w' A1 n1 (gath l) ∧ n1 ≤ c1 ∧ Below w.heap.size w w') := by
  obtain ⟨bs1, os2, hA3, hc4⟩ := hs.flat
  have hln5 := hs.len
  have hbd6 := hs.bd
  have hlen_l := hs.len
  refine ret_of (args := [.slice A n c]) Try.func55 rfl Try.ntmps55 rfl (rs := [.tmp 2]) rfl ?_
  refine wc_seq ?_
  refine wc_region ?_
  refine wl_op rfl (op_assign rfl rfl ?_)
  refine (wl_done (then_norm ?_))
  refine wc_seq ?_
  refine wc_region ?_
  refine wl_op rfl (op_assign rfl rfl ?_)
  refine (wl_done (then_norm ?_))
  refine wc_seq ?_
  refine wc_seq ?_
  refine wc_region ?_
  refine wl_op rfl (op_assign rfl rfl ?_)
  refine (wl_done (then_norm ?_))
  refine wc_block ?_
  refine wc_loop (σ := Nat × Value × World) (fun st_ => [(0, .slice A n c), (2, .slice none 0 0), (3, st_.2.1), (4, .int .i64 ((st_.1 + 1 : Nat) : Int))]) (fun st_ => st_.2.2) (fun st_ => (st_.1 ≤ 13) ∧ (Own encP w.heap.size 46 2 st_.2.2 st_.2.1 (gathK l st_.1)) ∧ (Below w.heap.size w st_.2.2)) (fun st_ => 13 - st_.1) (0, (.slice none 0 0), w) ⟨(by first | omega | (dsimp only; omega)), (own_nil _ _ _ _ _), (Below.refl _ _)⟩ ⟨rfl, rfl, rfl, rfl, trivial⟩ rfl ?_
  rintro ⟨k, v, W7⟩ ⟨hk, hown, hE8⟩
  dsimp only at hk hown hE8
  refine wc_at [(0, .slice A n c), (2, .slice none 0 0), (3, v), (4, .int .i64 ((k + 1 : Nat) : Int))] W7 ⟨rfl, rfl, rfl, rfl, trivial⟩ rfl ?_
  have hgl := gathK_len l k
  refine wc_seq ?_
  refine wc_seq ?_
  refine wc_region ?_
  refine wl_op rfl (op_move rfl rfl ?_)
  refine wl_op rfl (op_leq rfl rfl rfl ?_)
  refine (wl_done (then_norm ?_))
  refine wc_cond (b := decide (((k + 1 : Nat) : Int) ≤ 13)) rfl (fun hc9 => ?_) (fun hc9 => ?_)
  · have hc9r := hc9
    have hc9 := of_decide_eq_true hc9
    refine wc_skip ?_
    refine (then_norm ?_)
    refine wc_seq ?_
    refine wc_block ?_
    refine wc_seq ?_
    refine wc_region ?_
    refine wl_op rfl (op_move rfl rfl ?_)
    refine wl_op rfl (op_len_slice rfl rfl und22 rfl rfl ?_)
    refine wl_op rfl (op_sub (r := ((n : Nat) : Int) - 1) rfl rfl (by omega) (by omega) rfl ?_)
    refine wl_op rfl (op_assign rfl rfl ?_)
    refine (wl_done (then_norm ?_))
    refine wc_block ?_
    refine wc_loop (σ := Nat × World) (fun st_ => [(0, .slice A n c), (2, .slice none 0 0), (3, v), (4, .int .i64 ((k + 1 : Nat) : Int)), (5, .int .i64 (((st_.1 : Nat) : Int) - 1)), (6, .int .i64 ((k + 1 : Nat) : Int)), (7, .bool (decide (((k + 1 : Nat) : Int) ≤ 13))), (10, .slice A n c), (11, .int .i64 ((n : Nat) : Int)), (12, .int .i64 (((n : Nat) : Int) - 1))]) (fun st_ => st_.2) (fun st_ => (st_.1 ≤ n) ∧ (∀ (i : Nat) (y : Pol), st_.1 ≤ i → l[i]? = some y → ¬ y.kind = (((k + 1 : Nat)) : Int)) ∧ (Below W7.heap.size W7 st_.2)) (fun st_ => st_.1) (n, W7) ⟨(by first | omega | (dsimp only; omega)), (fun i y hi hy => by have := (List.getElem?_eq_some_iff.1 hy).1; omega), (Below.refl _ _)⟩ ⟨rfl, rfl, rfl, rfl, rfl, rfl, rfl, rfl, rfl, rfl, trivial⟩ rfl ?_
    rintro ⟨j, W10⟩ ⟨hj, hall, hE11⟩
    dsimp only at hj hall hE11
    refine wc_at [(0, .slice A n c), (2, .slice none 0 0), (3, v), (4, .int .i64 ((k + 1 : Nat) : Int)), (5, .int .i64 (((j : Nat) : Int) - 1)), (6, .int .i64 ((k + 1 : Nat) : Int)), (7, .bool (decide (((k + 1 : Nat) : Int) ≤ 13))), (10, .slice A n c), (11, .int .i64 ((n : Nat) : Int)), (12, .int .i64 (((n : Nat) : Int) - 1))] W10 ⟨rfl, rfl, rfl, rfl, rfl, rfl, rfl, rfl, rfl, rfl, trivial⟩ rfl ?_
    refine wc_seq ?_
    refine wc_seq ?_
    refine wc_region ?_
    refine wl_op rfl (op_move rfl rfl ?_)
    refine wl_op rfl (op_geq rfl rfl rfl ?_)
    refine (wl_done (then_norm ?_))
    refine wc_cond (b := decide (0 ≤ ((j : Nat) : Int) - 1)) rfl (fun hc12 => ?_) (fun hc12 => ?_)
    · have hc12r := hc12
      have hc12 := of_decide_eq_true hc12
      refine wc_skip ?_
      refine (then_norm ?_)
      refine wc_seq ?_
      refine wc_block ?_
      refine wc_seq ?_
      refine wc_region ?_
      refine wl_op rfl (op_move rfl rfl ?_)
      refine wl_op rfl (op_move rfl rfl ?_)
      obtain ⟨x_l_j_1, hx_l_j_1⟩ : ∃ x, l[j - 1]? = some x := ⟨_, List.getElem?_eq_getElem (by have := hs.len; omega)⟩
      refine wl_op rfl (op_indexAddr (j := j - 1) rfl rfl und22 sz46 (hA3 (by omega)) (by omega) (by omega) rfl ?_)
      refine wl_op rfl (op_fieldAddr rfl fa46_0 rfl ?_)
      have hB13 : Below w.heap.size w W10 := (below_step (below_step (Below.refl _ _) hE8) hE11)
      refine wl_op rfl (op_load1 (v := .int .i64 x_l_j_1.kind) rfl agg3 (((hc4 (j - 1) x_l_j_1 hx_l_j_1).ext hB13).at (i := 0) rfl) rfl ?_)
      refine wl_op rfl (op_move rfl rfl ?_)
      refine wl_op rfl (op_eql rfl rfl rfl ?_)
      refine (wl_done (then_norm ?_))
      refine wc_cond (b := decide (x_l_j_1.kind = ((k + 1 : Nat) : Int))) rfl (fun hc14 => ?_) (fun hc14 => ?_)
      · have hc14r := hc14
        have hc14 := of_decide_eq_true hc14
        have hla : lastOf l ((k : Int) + 1) = some x_l_j_1 := lastOf_some hx_l_j_1 (by have := hc14; push_cast at this; exact this) (fun i y hi hy => by have := hall i y (by omega) hy; push_cast at this; exact this)
        refine wc_seq ?_
        refine wc_region ?_
        refine wl_op rfl (op_move rfl rfl ?_)
        refine wl_op rfl (op_move rfl rfl ?_)
        refine wl_op rfl (op_move rfl rfl ?_)
        refine wl_op rfl (op_indexAddr (j := j - 1) rfl rfl und22 sz46 (hA3 (by omega)) (by omega) (by omega) rfl ?_)
        refine wl_op rfl (op_loadN (vs := [.int .i64 x_l_j_1.kind, .int .i64 x_l_j_1.val]) rfl agg46 sz46 rfl ((hc4 (j - 1) x_l_j_1 hx_l_j_1).ext hB13) rfl ?_)
        refine wl_op rfl (op_buildSlice (cs := #[.int .i64 x_l_j_1.kind, .int .i64 x_l_j_1.val]) (e := 46) rfl (fun w => by kernel_rfl) rfl ?_)
        intro W15 b16 hN17
        have hb18 : W15.heap[b16]? = some (.cells #[.int .i64 x_l_j_1.kind, .int .i64 x_l_j_1.val] 46 (0, 0)) := hN17.blk
        have hB24 : Below w.heap.size w W15 := (below_new hB13 hN17)
        refine wl_op rfl (op_appendP (enc := encP) (⟨x_l_j_1.kind, x_l_j_1.val⟩ : Pol) rfl rfl app22 rfl rfl (Own.ext (Own.ext hown hE11) hN17.ext) (cells_blk hb18) rfl rfl (by omega) (by omega) hB24.size rfl ?_)
        intro v19 W20 ho21 hg22 hob23
        refine wl_op rfl (op_assign rfl rfl ?_)
        refine (wl_done (then_norm ?_))
        refine wc_exit ?_
        refine (block_far rfl (then_exit (then_exit (block_here (block_norm (then_norm ?_))))))
        refine wc_region ?_
        refine wl_op rfl (op_move rfl rfl ?_)
        refine wl_op rfl (op_add (r := ((k + 1 + 1 : Nat) : Int)) rfl rfl (by omega) (by omega) rfl ?_)
        refine wl_op rfl (op_assign rfl rfl ?_)
        refine (wl_done (then_norm ?_))
        have hB25 : Below w.heap.size w W20 := (below_grown hB24 (Own.ext (Own.ext hown hE11) hN17.ext) hg22 (Nat.le_refl _))
        refine ⟨((k + 1), v19, W20), ⟨(by first | omega | (dsimp only; omega)), (by dsimp only; rw [gathK_some hla]; exact ho21), hB25⟩, ?_, ⟨rfl, rfl, rfl, rfl, trivial⟩, rfl⟩
        · dsimp only; omega
      · have hc14r := hc14
        have hc14 := of_decide_eq_false hc14
        refine wc_skip ?_
        refine (block_norm (then_norm ?_))
        refine wc_region ?_
        refine wl_op rfl (op_move rfl rfl ?_)
        refine wl_op rfl (op_sub (r := ((j - 1 : Nat) : Int) - 1) rfl rfl (by omega) (by omega) rfl ?_)
        refine wl_op rfl (op_assign rfl rfl ?_)
        refine (wl_done (then_norm ?_))
        have hB26 : Below W7.heap.size W7 W10 := (below_step (Below.refl _ _) hE11)
        refine ⟨((j - 1), W10), ⟨(by first | omega | (dsimp only; omega)), (fun i y hi hy => by rcases Nat.lt_or_ge i j with h | h; (have e : i = j - 1 := (by dsimp only at hi; omega)); subst e; rw [hx_l_j_1] at hy; cases hy; exact hc14; exact hall i y h hy), hB26⟩, ?_, ⟨rfl, rfl, rfl, rfl, rfl, rfl, rfl, rfl, rfl, rfl, trivial⟩, rfl⟩
        · dsimp only; omega
    · have hc12r := hc12
      have hc12 := of_decide_eq_false hc12
      have hla : lastOf l ((k : Int) + 1) = none := lastOf_none (fun i y hy => by have := hall i y (by omega) hy; push_cast at this; exact this)
      refine wc_exit ?_
      refine (then_exit (then_exit (block_here (block_norm (then_norm ?_)))))
      refine wc_region ?_
      refine wl_op rfl (op_move rfl rfl ?_)
      refine wl_op rfl (op_add (r := ((k + 1 + 1 : Nat) : Int)) rfl rfl (by omega) (by omega) rfl ?_)
      refine wl_op rfl (op_assign rfl rfl ?_)
      refine (wl_done (then_norm ?_))
      have hB27 : Below w.heap.size w W10 := (below_step (below_step (Below.refl _ _) hE8) hE11)
      refine ⟨((k + 1), v, W10), ⟨(by first | omega | (dsimp only; omega)), (by dsimp only; rw [gathK_none hla]; exact (Own.ext hown hE11)), hB27⟩, ?_, ⟨rfl, rfl, rfl, rfl, trivial⟩, rfl⟩
      · dsimp only; omega
  · have hc9r := hc9
    have hc9 := of_decide_eq_false hc9
    refine wc_exit ?_
    refine (then_exit (then_exit (block_here (then_norm ?_))))
    refine wc_seq ?_
    refine wc_region ?_
    refine wl_op rfl (op_move rfl rfl ?_)
    refine wl_op rfl (op_assign rfl rfl ?_)
    refine (wl_done (then_norm ?_))
    refine WC.sub [(2, v)] ⟨rfl, trivial⟩ ?_
    refine wc_ret ?_
    have hB28 : Below w.heap.size w W7 := (below_step (Below.refl _ _) hE8)
    obtain ⟨A29, n30, c31, hv32, hr33, hn34, hnc35⟩ := rd_of_OwnC hown (fun _ => rfl) (by have := gathK_len l k; omega)
    subst hv32
    have hk13 : k = 13 := by omega
    subst hk13
    refine ⟨[_], ⟨rfl, trivial⟩, ⟨A29, n30, c31, ?_, hr33, (by omega), hB28⟩⟩
    exact rfl

end Go.Eng
