/- Lemmas for a law of the seat: what functions of the program do, each stated as a contract of its own (S4). -/
import Derived.Test.YtbjafckcpkhoaaaS3
import Derived.Test.YtbjafckcpkhoaaaEng
import Derived.Test.YtbjafckcpkhoaaaChecked
set_option linter.unusedVariables false
set_option maxRecDepth 100000
namespace Go.Eng
open Go.RowKit Go.Shelf Go.Proofs Pol



def lastOf (l : List Pol) (q : Int) : Option Pol := (l.filter (fun p => decide (p.kind = q))).getLast?
def gathK (l : List Pol) (k : Nat) : List Pol := (List.range k).filterMap (fun i : Nat => lastOf l ((i : Int) + 1))
abbrev gath (l : List Pol) : List Pol := gathK l 13
theorem gathK_len (l : List Pol) (k : Nat) : (gathK l k).length ≤ k := by
  have := List.length_filterMap_le (fun i : Nat => lastOf l ((i : Int) + 1)) (List.range k)
  simpa [gathK] using this
theorem gathK_some {l : List Pol} {k : Nat} {x : Pol} (h : lastOf l ((k : Int) + 1) = some x) : gathK l (k + 1) = gathK l k ++ [x] := by
  rw [gathK, List.range_succ, List.filterMap_append]; simp [h, gathK]
theorem gathK_none {l : List Pol} {k : Nat} (h : lastOf l ((k : Int) + 1) = none) : gathK l (k + 1) = gathK l k := by
  rw [gathK, List.range_succ, List.filterMap_append]; simp [h, gathK]
theorem lastOf_some {l : List Pol} {q : Int} {j : Nat} {x : Pol} (hx : l[j]? = some x) (hk : x.kind = q) (h : ∀ (i : Nat) (y : Pol), j < i → l[i]? = some y → ¬ y.kind = q) : lastOf l q = some x := by
  obtain ⟨hj, hxe⟩ := List.getElem?_eq_some_iff.1 hx
  have e : l = l.take j ++ x :: l.drop (j + 1) := by rw [← hxe, ← List.drop_eq_getElem_cons hj, List.take_append_drop]
  have hd : (l.drop (j + 1)).filter (fun p => decide (p.kind = q)) = [] := by
    rw [List.filter_eq_nil_iff]
    intro y hy
    obtain ⟨i, hi, rfl⟩ := List.getElem_of_mem hy
    have := h (j + 1 + i) _ (by omega) (by rw [← List.getElem?_drop, List.getElem?_eq_getElem hi])
    simpa using this
  have hf : l.filter (fun p => decide (p.kind = q)) = (l.take j).filter (fun p => decide (p.kind = q)) ++ [x] := by
    rw [congrArg (List.filter (fun p : Pol => decide (p.kind = q))) e, List.filter_append, List.filter_cons_of_pos (by simpa using hk), hd]
  unfold lastOf
  rw [hf]; simp
theorem lastOf_none {l : List Pol} {q : Int} (h : ∀ (i : Nat) (y : Pol), l[i]? = some y → ¬ y.kind = q) : lastOf l q = none := by
  have hd : l.filter (fun p => decide (p.kind = q)) = [] := by
    rw [List.filter_eq_nil_iff]
    intro y hy
    obtain ⟨i, hi, rfl⟩ := List.getElem_of_mem hy
    simpa using h i _ (List.getElem?_eq_getElem hi)
  unfold lastOf; rw [hd]; rfl

theorem gathered_spec {w : World} {A : Option Addr} {n c : Nat} {l : List Pol} (hs : RdP w A n l) : Ret Try.prog 55 #[.slice A n c] w (fun v w' => ∃ (A1 : Option Addr) (n1 c1 : Nat), v = .slice A1 n1 c1 ∧ RdP w' A1 n1 (gath l) ∧ n1 ≤ c1 ∧ Below w.heap.size w w') := by
  obtain ⟨bs1, os2, hA3, hc4⟩ := hs.flat
  have hln5 := hs.len
  have hbd6 := hs.bd
  have hlen_l := hs.len
  refine ret_of (args := [.slice A n c]) Try.func55 rfl Try.ntmps55 rfl (rs := [.tmp 2]) rfl ?_
  refine wc_seq ?_
  refine wc_region ?_
  refine wl_op rfl (op_assign rfl rfl ?_)
  refine (wl_done (then_norm ?_))
  refine wc_seq ?_
  refine wc_region ?_
  refine wl_op rfl (op_assign rfl rfl ?_)
  refine (wl_done (then_norm ?_))
  refine wc_seq ?_
  refine wc_seq ?_
  refine wc_region ?_
  refine wl_op rfl (op_assign rfl rfl ?_)
  refine (wl_done (then_norm ?_))
  refine wc_block ?_
  refine wc_loop (σ := Nat × Value × World) (fun st_ => [(0, .slice A n c), (2, .slice none 0 0), (3, st_.2.1), (4, .int .i64 ((st_.1 + 1 : Nat) : Int))]) (fun st_ => st_.2.2) (fun st_ => (st_.1 ≤ 13) ∧ (Own encP w.heap.size 46 2 st_.2.2 st_.2.1 (gathK l st_.1)) ∧ (Below w.heap.size w st_.2.2)) (fun st_ => 13 - st_.1) (0, (.slice none 0 0), w) ⟨(by first | omega | (dsimp only; omega)), (own_nil _ _ _ _ _), (Below.refl _ _)⟩ ⟨rfl, rfl, rfl, rfl, trivial⟩ rfl ?_
  rintro ⟨k, v, W7⟩ ⟨hk, hown, hE8⟩
  dsimp only at hk hown hE8
  refine wc_at [(0, .slice A n c), (2, .slice none 0 0), (3, v), (4, .int .i64 ((k + 1 : Nat) : Int))] W7 ⟨rfl, rfl, rfl, rfl, trivial⟩ rfl ?_
  have hgl := gathK_len l k
  refine wc_seq ?_
  refine wc_seq ?_
  refine wc_region ?_
  refine wl_op rfl (op_move rfl rfl ?_)
  refine wl_op rfl (op_leq rfl rfl rfl ?_)
  refine (wl_done (then_norm ?_))
  refine wc_cond (b := decide (((k + 1 : Nat) : Int) ≤ 13)) rfl (fun hc9 => ?_) (fun hc9 => ?_)
  · have hc9r := hc9
    have hc9 := of_decide_eq_true hc9
    refine wc_skip ?_
    refine (then_norm ?_)
    refine wc_seq ?_
    refine wc_block ?_
    refine wc_seq ?_
    refine wc_region ?_
    refine wl_op rfl (op_move rfl rfl ?_)
    refine wl_op rfl (op_len_slice rfl rfl und22 rfl rfl ?_)
    refine wl_op rfl (op_sub (r := ((n : Nat) : Int) - 1) rfl rfl (by omega) (by omega) rfl ?_)
    refine wl_op rfl (op_assign rfl rfl ?_)
    refine (wl_done (then_norm ?_))
    refine wc_block ?_
    refine wc_loop (σ := Nat × World) (fun st_ => [(0, .slice A n c), (2, .slice none 0 0), (3, v), (4, .int .i64 ((k + 1 : Nat) : Int)), (5, .int .i64 (((st_.1 : Nat) : Int) - 1)), (6, .int .i64 ((k + 1 : Nat) : Int)), (7, .bool (decide (((k + 1 : Nat) : Int) ≤ 13))), (10, .slice A n c), (11, .int .i64 ((n : Nat) : Int)), (12, .int .i64 (((n : Nat) : Int) - 1))]) (fun st_ => st_.2) (fun st_ => (st_.1 ≤ n) ∧ (∀ (i : Nat) (y : Pol), st_.1 ≤ i → l[i]? = some y → ¬ y.kind = (((k + 1 : Nat)) : Int)) ∧ (Below W7.heap.size W7 st_.2)) (fun st_ => st_.1) (n, W7) ⟨(by first | omega | (dsimp only; omega)), (fun i y hi hy => by have := (List.getElem?_eq_some_iff.1 hy).1; omega), (Below.refl _ _)⟩ ⟨rfl, rfl, rfl, rfl, rfl, rfl, rfl, rfl, rfl, rfl, trivial⟩ rfl ?_
    rintro ⟨j, W10⟩ ⟨hj, hall, hE11⟩
    dsimp only at hj hall hE11
    refine wc_at [(0, .slice A n c), (2, .slice none 0 0), (3, v), (4, .int .i64 ((k + 1 : Nat) : Int)), (5, .int .i64 (((j : Nat) : Int) - 1)), (6, .int .i64 ((k + 1 : Nat) : Int)), (7, .bool (decide (((k + 1 : Nat) : Int) ≤ 13))), (10, .slice A n c), (11, .int .i64 ((n : Nat) : Int)), (12, .int .i64 (((n : Nat) : Int) - 1))] W10 ⟨rfl, rfl, rfl, rfl, rfl, rfl, rfl, rfl, rfl, rfl, trivial⟩ rfl ?_
    refine wc_seq ?_
    refine wc_seq ?_
    refine wc_region ?_
    refine wl_op rfl (op_move rfl rfl ?_)
    refine wl_op rfl (op_geq rfl rfl rfl ?_)
    refine (wl_done (then_norm ?_))
    refine wc_cond (b := decide (0 ≤ ((j : Nat) : Int) - 1)) rfl (fun hc12 => ?_) (fun hc12 => ?_)
    · have hc12r := hc12
      have hc12 := of_decide_eq_true hc12
      refine wc_skip ?_
      refine (then_norm ?_)
      refine wc_seq ?_
      refine wc_block ?_
      refine wc_seq ?_
      refine wc_region ?_
      refine wl_op rfl (op_move rfl rfl ?_)
      refine wl_op rfl (op_move rfl rfl ?_)
      obtain ⟨x_l_j_1, hx_l_j_1⟩ : ∃ x, l[j - 1]? = some x := ⟨_, List.getElem?_eq_getElem (by have := hs.len; omega)⟩
      refine wl_op rfl (op_indexAddr (j := j - 1) rfl rfl und22 sz46 (hA3 (by omega)) (by omega) (by omega) rfl ?_)
      refine wl_op rfl (op_fieldAddr rfl fa46_0 rfl ?_)
      have hB13 : Below w.heap.size w W10 := (below_step (below_step (Below.refl _ _) hE8) hE11)
      refine wl_op rfl (op_load1 (v := .int .i64 x_l_j_1.kind) rfl agg3 (((hc4 (j - 1) x_l_j_1 hx_l_j_1).ext hB13).at (i := 0) rfl) rfl ?_)
      refine wl_op rfl (op_move rfl rfl ?_)
      refine wl_op rfl (op_eql rfl rfl rfl ?_)
      refine (wl_done (then_norm ?_))
      refine wc_cond (b := decide (x_l_j_1.kind = ((k + 1 : Nat) : Int))) rfl (fun hc14 => ?_) (fun hc14 => ?_)
      · have hc14r := hc14
        have hc14 := of_decide_eq_true hc14
        have hla : lastOf l ((k : Int) + 1) = some x_l_j_1 := lastOf_some hx_l_j_1 (by have := hc14; push_cast at this; exact this) (fun i y hi hy => by have := hall i y (by omega) hy; push_cast at this; exact this)
        refine wc_seq ?_
        refine wc_region ?_
        refine wl_op rfl (op_move rfl rfl ?_)
        refine wl_op rfl (op_move rfl rfl ?_)
        refine wl_op rfl (op_move rfl rfl ?_)
        refine wl_op rfl (op_indexAddr (j := j - 1) rfl rfl und22 sz46 (hA3 (by omega)) (by omega) (by omega) rfl ?_)
        refine wl_op rfl (op_loadN (vs := [.int .i64 x_l_j_1.kind, .int .i64 x_l_j_1.val]) rfl agg46 sz46 rfl ((hc4 (j - 1) x_l_j_1 hx_l_j_1).ext hB13) rfl ?_)
        refine wl_op rfl (op_buildSlice (cs := #[.int .i64 x_l_j_1.kind, .int .i64 x_l_j_1.val]) (e := 46) rfl (fun w => by kernel_rfl) rfl ?_)
        intro W15 b16 hN17
        have hb18 : W15.heap[b16]? = some (.cells #[.int .i64 x_l_j_1.kind, .int .i64 x_l_j_1.val] 46 (0, 0)) := hN17.blk
        have hB24 : Below w.heap.size w W15 := (below_new hB13 hN17)
        refine wl_op rfl (op_appendP (enc := encP) (⟨x_l_j_1.kind, x_l_j_1.val⟩ : Pol) rfl rfl app22 rfl rfl (Own.ext (Own.ext hown hE11) hN17.ext) (cells_blk hb18) rfl rfl (by omega) (by omega) hB24.size rfl ?_)
        intro v19 W20 ho21 hg22 hob23
        refine wl_op rfl (op_assign rfl rfl ?_)
        refine (wl_done (then_norm ?_))
        refine wc_exit ?_
        refine (block_far rfl (then_exit (then_exit (block_here (block_norm (then_norm ?_))))))
        refine wc_region ?_
        refine wl_op rfl (op_move rfl rfl ?_)
        refine wl_op rfl (op_add (r := ((k + 1 + 1 : Nat) : Int)) rfl rfl (by omega) (by omega) rfl ?_)
        refine wl_op rfl (op_assign rfl rfl ?_)
        refine (wl_done (then_norm ?_))
        have hB25 : Below w.heap.size w W20 := (below_grown hB24 (Own.ext (Own.ext hown hE11) hN17.ext) hg22 (Nat.le_refl _))
        refine ⟨((k + 1), v19, W20), ⟨(by first | omega | (dsimp only; omega)), (by dsimp only; rw [gathK_some hla]; exact ho21), hB25⟩, ?_, ⟨rfl, rfl, rfl, rfl, trivial⟩, rfl⟩
        · dsimp only; omega
      · have hc14r := hc14
        have hc14 := of_decide_eq_false hc14
        refine wc_skip ?_
        refine (block_norm (then_norm ?_))
        refine wc_region ?_
        refine wl_op rfl (op_move rfl rfl ?_)
        refine wl_op rfl (op_sub (r := ((j - 1 : Nat) : Int) - 1) rfl rfl (by omega) (by omega) rfl ?_)
        refine wl_op rfl (op_assign rfl rfl ?_)
        refine (wl_done (then_norm ?_))
        have hB26 : Below W7.heap.size W7 W10 := (below_step (Below.refl _ _) hE11)
        refine ⟨((j - 1), W10), ⟨(by first | omega | (dsimp only; omega)), (fun i y hi hy => by rcases Nat.lt_or_ge i j with h | h; (have e : i = j - 1 := (by dsimp only at hi; omega)); subst e; rw [hx_l_j_1] at hy; cases hy; exact hc14; exact hall i y h hy), hB26⟩, ?_, ⟨rfl, rfl, rfl, rfl, rfl, rfl, rfl, rfl, rfl, rfl, trivial⟩, rfl⟩
        · dsimp only; omega
    · have hc12r := hc12
      have hc12 := of_decide_eq_false hc12
      have hla : lastOf l ((k : Int) + 1) = none := lastOf_none (fun i y hy => by have := hall i y (by omega) hy; push_cast at this; exact this)
      refine wc_exit ?_
      refine (then_exit (then_exit (block_here (block_norm (then_norm ?_)))))
      refine wc_region ?_
      refine wl_op rfl (op_move rfl rfl ?_)
      refine wl_op rfl (op_add (r := ((k + 1 + 1 : Nat) : Int)) rfl rfl (by omega) (by omega) rfl ?_)
      refine wl_op rfl (op_assign rfl rfl ?_)
      refine (wl_done (then_norm ?_))
      have hB27 : Below w.heap.size w W10 := (below_step (below_step (Below.refl _ _) hE8) hE11)
      refine ⟨((k + 1), v, W10), ⟨(by first | omega | (dsimp only; omega)), (by dsimp only; rw [gathK_none hla]; exact (Own.ext hown hE11)), hB27⟩, ?_, ⟨rfl, rfl, rfl, rfl, trivial⟩, rfl⟩
      · dsimp only; omega
  · have hc9r := hc9
    have hc9 := of_decide_eq_false hc9
    refine wc_exit ?_
    refine (then_exit (then_exit (block_here (then_norm ?_))))
    refine wc_seq ?_
    refine wc_region ?_
    refine wl_op rfl (op_move rfl rfl ?_)
    refine wl_op rfl (op_assign rfl rfl ?_)
    refine (wl_done (then_norm ?_))
    refine WC.sub [(2, v)] ⟨rfl, trivial⟩ ?_
    refine wc_ret ?_
    have hB28 : Below w.heap.size w W7 := (below_step (Below.refl _ _) hE8)
    obtain ⟨A29, n30, c31, hv32, hr33, hn34, hnc35⟩ := rd_of_OwnC hown (fun _ => rfl) (by have := gathK_len l k; omega)
    subst hv32
    have hk13 : k = 13 := by omega
    subst hk13
    refine ⟨[_], ⟨rfl, trivial⟩, ⟨A29, n30, c31, ?_, hr33, (by omega), hB28⟩⟩
    exact rfl

end Go.Eng

set_option linter.unusedVariables false
set_option maxRecDepth 100000
namespace Go.Eng
open Go.RowKit Go.Shelf Go.Proofs Pol

theorem ent55 : Enters Try.prog 55 := enters_of Try.func55 (by kernel_rfl) rfl

def rOverR (a b : List Pol) : List Pol := if validSet a = true ∧ validSet b = true then gath (a ++ b) else []

theorem rOver_spec {w : World} {A : Option Addr} {n c : Nat} {a : List Pol} {A2 : Option Addr} {n2 c2 : Nat} {b : List Pol} (hs : RdP w A n a) (hs2 : RdP w A2 n2 b) (hn : n ≤ 1000) (hn2 : n2 ≤ 1000) : Ret Try.prog 16 #[.slice A n c, .slice A2 n2 c2] w (fun v w' => ∃ (A1 : Option Addr) (n1 c1 : Nat), v = .tuple #[.slice A1 n1 c1, .int .i64 (overE a b)] ∧ RdP w' A1 n1 (rOverR a b) ∧ n1 ≤ c1 ∧ Below w.heap.size w w') := by
  obtain ⟨bs1, os2, hA3, hc4⟩ := hs.flat
  have hln5 := hs.len
  have hbd6 := hs.bd
  have hlen_a := hs.len
  obtain ⟨bs7, os8, hA9, hc10⟩ := hs2.flat
  have hln11 := hs2.len
  have hbd12 := hs2.bd
  have hlen_b := hs2.len
  refine ret_of (args := [.slice A n c, .slice A2 n2 c2]) Try.func16 rfl Try.ntmps16 rfl (rs := [.tmp 4, .tmp 5]) rfl ?_
  refine wc_seq ?_
  refine wc_region ?_
  refine wl_op rfl (op_assign rfl rfl ?_)
  refine wl_op rfl (op_assign rfl rfl ?_)
  refine (wl_done (then_norm ?_))
  refine wc_seq ?_
  refine wc_seq ?_
  refine wc_text [(0, .slice A n c), (1, .slice A2 n2 c2), (4, .slice none 0 0), (5, .int .i64 0)] ⟨rfl, rfl, rfl, rfl, trivial⟩ [fun v _ => v = .slice A n c, fun v _ => v = .bool (validSet a), fun v _ => v = .bool (!(validSet a)), fun v _ => v = .bool (!(validSet a)), fun v _ => v = (bif (!(!(validSet a))) then (.slice A2 n2 c2) else undef), fun v _ => v = (bif (!(!(validSet a))) then (.bool (validSet b)) else undef), fun v _ => v = (bif (!(!(validSet a))) then (.bool (!(validSet b))) else undef), fun v _ => v = .bool ((!(validSet a)) || (!(validSet b)))] [[], [0], [1], [2], [3], [3, 4], [3, 5], [3, 6]] [7] rfl rfl rfl ⟨fun _ _ _ _ h => h, fun _ _ _ _ h => h, fun _ _ _ _ h => h, fun _ _ _ _ h => h, fun _ _ _ _ h => h, fun _ _ _ _ h => h, fun _ _ _ _ h => h, fun _ _ _ _ h => h, trivial⟩ ⟨?_, ?_, ?_, ?_, ?_, ?_, ?_, ?_, trivial⟩ ?_
  · intro W13 hW14
    refine gather_nil ?_
    refine opg_none rfl ?_
    exact op_move rfl rfl ⟨told rfl rfl rfl, (Below.refl _ _)⟩
  · intro W13 hW14
    rintro _ rfl
    refine gather_nil ?_
    refine opg_none rfl ?_
    have hB17 : Below w.heap.size w W13 := (below_step (Below.refl _ _) hW14)
    refine op_call ent28 rfl (rValidSet_spec (hs.ext (flat_lifts _) hB17)) rfl ?_
    rintro _ W18 ⟨rfl, hE19⟩
    exact ⟨told rfl rfl rfl, hE19⟩
  · intro W13 hW14
    rintro _ rfl
    refine gather_nil ?_
    refine opg_none rfl ?_
    exact op_not rfl rfl ⟨told rfl rfl rfl, (Below.refl _ _)⟩
  · intro W13 hW14
    rintro _ rfl
    refine gather_nil ?_
    refine opg_none rfl ?_
    exact op_move rfl rfl ⟨told rfl rfl rfl, (Below.refl _ _)⟩
  · intro W13 hW14
    rintro _ rfl
    refine gather_nil ?_
    refine opg_f1 rfl rfl (fun hg20 => ?_) (fun h => by rw [h, cond_false])
    exact op_move rfl rfl ⟨told rfl rfl (by rw [hg20, cond_true]), (Below.refl _ _)⟩
  · intro W13 hW14
    rintro _ rfl
    intro v21 (hv22 : v21 = bif (!(!(validSet a))) then (.slice A2 n2 c2) else undef)
    refine gather_nil ?_
    refine opg_f1 rfl rfl (fun hg23 => ?_) (fun h => by rw [h, cond_false])
    obtain rfl : v21 = .slice A2 n2 c2 := by rw [hv22, hg23, cond_true]
    have hB24 : Below w.heap.size w W13 := (below_step (Below.refl _ _) hW14)
    refine op_call ent28 rfl (rValidSet_spec (hs2.ext (flat_lifts _) hB24)) rfl ?_
    rintro _ W25 ⟨rfl, hE26⟩
    exact ⟨told rfl rfl (by rw [hg23, cond_true]), hE26⟩
  · intro W13 hW14
    rintro _ rfl
    intro v27 (hv28 : v27 = bif (!(!(validSet a))) then (.bool (validSet b)) else undef)
    refine gather_nil ?_
    refine opg_f1 rfl rfl (fun hg29 => ?_) (fun h => by rw [h, cond_false])
    obtain rfl : v27 = .bool (validSet b) := by rw [hv28, hg29, cond_true]
    exact op_not rfl rfl ⟨told rfl rfl (by rw [hg29, cond_true]), (Below.refl _ _)⟩
  · intro W13 hW14
    rintro _ rfl
    intro v30 (hv31 : v30 = bif (!(!(validSet a))) then (.bool (!(validSet b))) else undef)
    refine gather_nil ?_
    refine opg_none rfl ?_
    exact op_or rfl rfl rfl (fun h => by rw [hv31, (not_i h), cond_true]) rfl ⟨told rfl rfl rfl, (Below.refl _ _)⟩
  intro W32 hW33
  rintro _ rfl
  refine gather_nil ?_
  refine (then_norm ?_)
  refine wc_cond (b := (!(validSet a)) || (!(validSet b))) rfl (fun hc34 => ?_) (fun hc34 => ?_)
  · have hinv : ¬ (validSet a = true ∧ validSet b = true) := by intro h; rw [h.1, h.2] at hc34; cases hc34
    refine wc_seq ?_
    refine wc_region ?_
    refine wl_op rfl (op_assign rfl rfl ?_)
    refine wl_op rfl (op_assign rfl rfl ?_)
    refine (wl_done (then_norm ?_))
    refine wc_ret ?_
    refine (then_ret ?_)
    have hB35 : Below w.heap.size w W32 := (below_step (Below.refl _ _) hW33)
    refine ⟨[_, _], ⟨rfl, rfl, trivial⟩, ⟨none, 0, 0, ?_, (by rw [rOverR, if_neg hinv]; exact rd_nil _ _ _), (Nat.le_refl _), hB35⟩⟩
    rw [overE, if_neg hinv]
    rfl
  · have hval : validSet a = true ∧ validSet b = true := by simpa using hc34
    refine wc_skip ?_
    refine (then_norm ?_)
    refine wc_seq ?_
    refine wc_region ?_
    refine wl_op rfl (op_assign rfl rfl ?_)
    refine (wl_done (then_norm ?_))
    refine wc_seq ?_
    refine wc_region ?_
    refine wl_op rfl (op_move rfl rfl ?_)
    refine wl_op rfl (op_move rfl rfl ?_)
    have hB36 : Below w.heap.size w W32 := (below_step (Below.refl _ _) hW33)
    refine wl_op rfl (op_appendS (enc := encP) rfl rfl app22 rfl rfl (own_nil encP w.heap.size 46 2 _) (hs.ext (flat_lifts _) hB36) (fun _ => rfl) (fun _ => rfl) (by first | omega | (simp only [List.length_nil]; omega)) (by first | omega | (simp only [List.length_nil]; omega)) hB36.size rfl ?_)
    intro v37 W38 ho39 hg40 hob41
    simp only [List.nil_append] at ho39
    refine wl_op rfl (op_assign rfl rfl ?_)
    refine (wl_done (then_norm ?_))
    refine wc_seq ?_
    refine wc_region ?_
    refine wl_op rfl (op_move rfl rfl ?_)
    refine wl_op rfl (op_move rfl rfl ?_)
    have hB42 : Below w.heap.size w W38 := (below_grown hB36 (own_nil encP w.heap.size 46 2 _) hg40 (Nat.le_refl _))
    refine wl_op rfl (op_appendS (enc := encP) rfl rfl app22 rfl rfl ho39 (hs2.ext (flat_lifts _) hB42) (fun _ => rfl) (fun _ => rfl) (by first | omega | (simp only [List.length_nil]; omega)) (by first | omega | (simp only [List.length_nil]; omega)) hB42.size rfl ?_)
    intro v43 W44 ho45 hg46 hob47
    obtain ⟨A48, n49, c50, hv51, hr52, hn53, hnc54⟩ := rd_of_OwnC ho45 (fun _ => rfl) (by first | omega | (simp only [List.length_append]; omega))
    subst hv51
    refine wl_op rfl (op_call ent55 rfl (gathered_spec hr52) rfl ?_)
    rintro _ W60 ⟨A155, n156, c157, rfl, hp58, hp59, hE61⟩
    refine wl_op rfl (op_assign rfl rfl ?_)
    refine wl_op rfl (op_assign rfl rfl ?_)
    refine (wl_done (then_norm ?_))
    refine WC.sub [(4, .slice A155 n156 c157), (5, .int .i64 0)] ⟨rfl, rfl, trivial⟩ ?_
    refine wc_ret ?_
    have hB62 : Below w.heap.size w W60 := (below_step (below_grown hB42 ho39 hg46 (Nat.le_refl _)) hE61)
    refine ⟨[_, _], ⟨rfl, rfl, trivial⟩, ⟨A155, n156, c157, ?_, (by rw [rOverR, if_pos hval]; exact hp58), hp59, hB62⟩⟩
    rw [overE, if_pos hval]
    rfl

end Go.Eng

set_option linter.unusedVariables false
set_option maxRecDepth 100000
namespace Go.Eng
open Go.RowKit Go.Shelf Go.Proofs Pol



def rEffR (l : List (List Pol)) : List Pol := if allV l = true then gath l.flatten else []
theorem flat_succ {l : List (List Pol)} {k : Nat} {s : List Pol} (h : l[k]? = some s) : (l.take (k + 1)).flatten = (l.take k).flatten ++ s := by
  obtain ⟨hk, rfl⟩ := List.getElem?_eq_some_iff.1 h
  rw [List.take_succ_eq_append_getElem hk, List.flatten_append]; simp
def rSameR (a b : List Pol) : Bool := if validSet a = true ∧ validSet b = true then (List.range 13).all (fun i : Nat => decide (valueOf a ((i : Int) + 1) = valueOf b ((i : Int) + 1))) else false
theorem rsame_no {a b : List Pol} (hv : validSet a = true ∧ validSet b = true) {k : Nat} (hk : k < 13) (h : ¬ valueOf a ((k : Int) + 1) = valueOf b ((k : Int) + 1)) : rSameR a b = false := by
  rw [rSameR, if_pos hv, Bool.eq_false_iff]; intro ha
  have := List.all_eq_true.1 ha k (List.mem_range.2 hk)
  simp at this; exact h this
theorem rsame_yes {a b : List Pol} (hv : validSet a = true ∧ validSet b = true) (h : ∀ k : Nat, k < 13 → valueOf a ((k : Int) + 1) = valueOf b ((k : Int) + 1)) : rSameR a b = true := by
  rw [rSameR, if_pos hv, List.all_eq_true]; intro i hi
  exact decide_eq_true (h i (List.mem_range.1 hi))

theorem rEffective_spec {w : World} {A : Option Addr} {n c : Nat} {l : List (List Pol)} (hs : RdL w A n l) (hn : n ≤ 100) : Ret Try.prog 18 #[.slice A n c] w (fun v w' => ∃ (A1 : Option Addr) (n1 c1 : Nat), v = .tuple #[.slice A1 n1 c1, .int .i64 (effE l)] ∧ RdP w' A1 n1 (rEffR l) ∧ n1 ≤ c1 ∧ Below w.heap.size w w') := by
  obtain ⟨bs1, os2, hA3, hc4⟩ := hs.rows
  have hln5 := hs.len
  have hbd6 := hs.bd
  have hlen_l := hs.len
  refine ret_of (args := [.slice A n c]) Try.func18 rfl Try.ntmps18 rfl (rs := [.tmp 2, .tmp 3]) rfl ?_
  refine wc_seq ?_
  refine wc_region ?_
  refine wl_op rfl (op_assign rfl rfl ?_)
  refine wl_op rfl (op_assign rfl rfl ?_)
  refine (wl_done (then_norm ?_))
  refine wc_seq ?_
  refine wc_region ?_
  refine wl_op rfl (op_assign rfl rfl ?_)
  refine (wl_done (then_norm ?_))
  refine wc_seq ?_
  refine wc_seq ?_
  refine wc_region ?_
  refine wl_op rfl (op_move rfl rfl ?_)
  refine wl_op rfl (op_len_slice rfl rfl und33 rfl rfl ?_)
  refine wl_op rfl (op_move rfl rfl ?_)
  refine (wl_done (then_norm ?_))
  refine wc_block ?_
  refine wc_loop (σ := Nat × Value × World) (fun st_ => [(0, .slice A n c), (2, .slice none 0 0), (3, .int .i64 0), (4, st_.2.1), (7, .slice A n c), (8, .int .i64 ((n : Nat) : Int)), (9, .int .i64 (st_.1 : Int))]) (fun st_ => st_.2.2) (fun st_ => (st_.1 ≤ n) ∧ (Own encP w.heap.size 46 2 st_.2.2 st_.2.1 ((l.take st_.1).flatten)) ∧ (((l.take st_.1).flatten).length ≤ 200 * st_.1) ∧ (∀ (i : Nat) (x : List Pol), i < st_.1 → l[i]? = some x → validSet x = true) ∧ (Below w.heap.size w st_.2.2)) (fun st_ => n - st_.1) (0, (.slice none 0 0), w) ⟨(by first | omega | (dsimp only; omega)), (own_nil _ _ _ _ _), (by simp), (fun i x hi => absurd hi (by omega)), (Below.refl _ _)⟩ ⟨rfl, rfl, rfl, rfl, rfl, rfl, rfl, trivial⟩ rfl ?_
  rintro ⟨k, v, W7⟩ ⟨hk, hown, hlk, hall, hE8⟩
  dsimp only at hk hown hlk hall hE8
  refine wc_at [(0, .slice A n c), (2, .slice none 0 0), (3, .int .i64 0), (4, v), (7, .slice A n c), (8, .int .i64 ((n : Nat) : Int)), (9, .int .i64 (k : Int))] W7 ⟨rfl, rfl, rfl, rfl, rfl, rfl, rfl, trivial⟩ rfl ?_
  refine wc_seq ?_
  refine wc_region ?_
  refine wl_op rfl (op_lss rfl rfl rfl ?_)
  refine (wl_done (then_norm ?_))
  refine wc_seq ?_
  refine wc_cond (b := decide ((k : Int) < ((n : Nat) : Int))) rfl (fun hc9 => ?_) (fun hc9 => ?_)
  · have hc9r := hc9
    have hc9 := of_decide_eq_true hc9
    refine wc_skip ?_
    refine (then_norm ?_)
    refine wc_seq ?_
    refine wc_block ?_
    refine wc_seq ?_
    refine wc_region ?_
    obtain ⟨x_l_k, hx_l_k⟩ : ∃ x, l[k]? = some x := ⟨_, List.getElem?_eq_getElem (by have := hs.len; omega)⟩
    obtain ⟨cs10, hcl11, hR12, hC13⟩ := hc4 k x_l_k hx_l_k
    obtain ⟨A14, n15, c16, rfl, hr17, hnc18, hn219⟩ := hR12
    refine wl_op rfl (op_indexAddr (j := k) rfl rfl und33 sz22 (hA3 (by omega)) rfl (by omega) rfl ?_)
    have hB20 : Below w.heap.size w W7 := (below_step (Below.refl _ _) hE8)
    refine wl_op rfl (op_load1 (v := .slice A14 n15 c16) rfl agg22 ((hC13.ext hB20).at (i := 0) rfl) rfl ?_)
    refine wl_op rfl (op_assign rfl rfl ?_)
    refine (wl_done (then_norm ?_))
    refine wc_seq ?_
    refine wc_seq ?_
    refine wc_region ?_
    refine wl_op rfl (op_move rfl rfl ?_)
    refine wl_op rfl (op_call ent28 rfl (rValidSet_spec (hr17.ext (flat_lifts _) hB20)) rfl ?_)
    rintro _ W21 ⟨rfl, hE22⟩
    refine wl_op rfl (op_not rfl rfl ?_)
    refine (wl_done (then_norm ?_))
    refine wc_cond (b := !(validSet x_l_k)) rfl (fun hc23 => ?_) (fun hc23 => ?_)
    · have hxv : validSet x_l_k = false := by simpa using hc23
      refine wc_seq ?_
      refine wc_region ?_
      refine wl_op rfl (op_assign rfl rfl ?_)
      refine wl_op rfl (op_assign rfl rfl ?_)
      refine (wl_done (then_norm ?_))
      refine wc_ret ?_
      refine (then_ret (block_ret (then_ret (then_ret (block_ret (then_ret ?_))))))
      have hB24 : Below w.heap.size w W21 := (below_step hB20 hE22)
      have hav := allV_bad hx_l_k hxv
      refine ⟨[_, _], ⟨rfl, rfl, trivial⟩, ⟨none, 0, 0, ?_, (by rw [rEffR, if_neg (by rw [hav]; decide)]; exact rd_nil _ _ _), (Nat.le_refl _), hB24⟩⟩
      rw [effE, if_neg (by rw [hav]; decide)]
      rfl
    · have hvx : validSet x_l_k = true := by simpa using hc23
      have hlx := hr17.len
      refine wc_skip ?_
      refine (then_norm ?_)
      refine wc_region ?_
      refine wl_op rfl (op_move rfl rfl ?_)
      refine wl_op rfl (op_move rfl rfl ?_)
      have hB25 : Below w.heap.size w W21 := (below_step hB20 hE22)
      refine wl_op rfl (op_appendS (enc := encP) rfl rfl app22 rfl rfl (Own.ext hown hE22) (hr17.ext (flat_lifts _) hB25) (fun _ => rfl) (fun _ => rfl) (by omega) (by omega) hB25.size rfl ?_)
      intro v26 W27 ho28 hg29 hob30
      refine wl_op rfl (op_assign rfl rfl ?_)
      refine (wl_done (block_norm (then_norm ?_)))
      refine wc_region ?_
      refine wl_op rfl (op_add (r := ((k + 1 : Nat) : Int)) rfl rfl (by omega) (by omega) rfl ?_)
      refine wl_op rfl (op_move rfl rfl ?_)
      refine (wl_done (then_norm ?_))
      have hB31 : Below w.heap.size w W27 := (below_grown hB25 (Own.ext hown hE22) hg29 (Nat.le_refl _))
      refine ⟨((k + 1), v26, W27), ⟨(by first | omega | (dsimp only; omega)), (by dsimp only; rw [flat_succ hx_l_k]; exact ho28), (by dsimp only; rw [flat_succ hx_l_k, List.length_append]; have := hlx; omega), (fun i x hi hx => by rcases Nat.lt_or_ge i k with h | h; exact hall i x h hx; have e : i = k := (by dsimp only at hi; omega); subst e; rw [hx_l_k] at hx; cases hx; exact hvx), hB31⟩, ?_, ⟨rfl, rfl, rfl, rfl, rfl, rfl, rfl, trivial⟩, rfl⟩
      · dsimp only; omega
  · have hc9r := hc9
    have hc9 := of_decide_eq_false hc9
    refine wc_exit ?_
    refine (then_exit (then_exit (block_here (then_norm ?_))))
    refine wc_seq ?_
    refine wc_seq ?_
    refine wc_region ?_
    refine wl_op rfl (op_move rfl rfl ?_)
    refine wl_op rfl (op_len_slice rfl rfl und33 rfl rfl ?_)
    refine wl_op rfl (op_gtr rfl rfl rfl ?_)
    refine (wl_done (then_norm ?_))
    refine WC.sub [(2, .slice none 0 0), (3, .int .i64 0), (4, v), (22, .bool (decide (100 < ((n : Nat) : Int))))] ⟨rfl, rfl, rfl, rfl, trivial⟩ ?_
    refine wc_cond (b := decide (100 < ((n : Nat) : Int))) rfl (fun hc32 => ?_) (fun hc32 => ?_)
    · have hc32r := hc32
      have hc32 := of_decide_eq_true hc32
      omega
    · have hc32r := hc32
      have hc32 := of_decide_eq_false hc32
      refine wc_skip ?_
      refine (then_norm ?_)
      refine wc_seq ?_
      refine wc_region ?_
      refine wl_op rfl (op_move rfl rfl ?_)
      obtain ⟨A33, n34, c35, hv36, hr37, hn38, hnc39⟩ := rd_of_OwnC hown (fun _ => rfl) (by omega)
      subst hv36
      refine wl_op rfl (op_call ent55 rfl (gathered_spec hr37) rfl ?_)
      rintro _ W45 ⟨A140, n141, c142, rfl, hp43, hp44, hE46⟩
      have hkn : l.take k = l := List.take_of_length_le (by omega)
      rw [hkn] at hp43
      refine wl_op rfl (op_assign rfl rfl ?_)
      refine wl_op rfl (op_assign rfl rfl ?_)
      refine (wl_done (then_norm ?_))
      refine wc_ret ?_
      have hB47 : Below w.heap.size w W45 := (below_step (below_step (Below.refl _ _) hE8) hE46)
      have hav : allV l = true := all_yes (f := validSet) fun i x hi => hall i x (by omega)
      refine ⟨[_, _], ⟨rfl, rfl, trivial⟩, ⟨A140, n141, c142, ?_, (by rw [rEffR, if_pos hav]; exact hp43), hp44, hB47⟩⟩
      rw [effE, if_pos hav]
      rfl

theorem rSame_spec {w : World} {A : Option Addr} {n c : Nat} {a : List Pol} {A2 : Option Addr} {n2 c2 : Nat} {b : List Pol} (hs : RdP w A n a) (hs2 : RdP w A2 n2 b) : Ret Try.prog 20 #[.slice A n c, .slice A2 n2 c2] w (fun v w' => v = .tuple #[.bool (rSameR a b), .int .i64 (overE a b)] ∧ Below w.heap.size w w') := by
  obtain ⟨bs1, os2, hA3, hc4⟩ := hs.flat
  have hln5 := hs.len
  have hbd6 := hs.bd
  have hlen_a := hs.len
  obtain ⟨bs7, os8, hA9, hc10⟩ := hs2.flat
  have hln11 := hs2.len
  have hbd12 := hs2.bd
  have hlen_b := hs2.len
  refine ret_of (args := [.slice A n c, .slice A2 n2 c2]) Try.func20 rfl Try.ntmps20 rfl (rs := [.tmp 4, .tmp 5]) rfl ?_
  refine wc_seq ?_
  refine wc_region ?_
  refine wl_op rfl (op_assign rfl rfl ?_)
  refine wl_op rfl (op_assign rfl rfl ?_)
  refine (wl_done (then_norm ?_))
  refine wc_seq ?_
  refine wc_seq ?_
  refine wc_text [(0, .slice A n c), (1, .slice A2 n2 c2), (4, .bool false), (5, .int .i64 0)] ⟨rfl, rfl, rfl, rfl, trivial⟩ [fun v _ => v = .slice A n c, fun v _ => v = .bool (validSet a), fun v _ => v = .bool (!(validSet a)), fun v _ => v = .bool (!(validSet a)), fun v _ => v = (bif (!(!(validSet a))) then (.slice A2 n2 c2) else undef), fun v _ => v = (bif (!(!(validSet a))) then (.bool (validSet b)) else undef), fun v _ => v = (bif (!(!(validSet a))) then (.bool (!(validSet b))) else undef), fun v _ => v = .bool ((!(validSet a)) || (!(validSet b)))] [[], [0], [1], [2], [3], [3, 4], [3, 5], [3, 6]] [7] rfl rfl rfl ⟨fun _ _ _ _ h => h, fun _ _ _ _ h => h, fun _ _ _ _ h => h, fun _ _ _ _ h => h, fun _ _ _ _ h => h, fun _ _ _ _ h => h, fun _ _ _ _ h => h, fun _ _ _ _ h => h, trivial⟩ ⟨?_, ?_, ?_, ?_, ?_, ?_, ?_, ?_, trivial⟩ ?_
  · intro W13 hW14
    refine gather_nil ?_
    refine opg_none rfl ?_
    exact op_move rfl rfl ⟨told rfl rfl rfl, (Below.refl _ _)⟩
  · intro W13 hW14
    rintro _ rfl
    refine gather_nil ?_
    refine opg_none rfl ?_
    have hB17 : Below w.heap.size w W13 := (below_step (Below.refl _ _) hW14)
    refine op_call ent28 rfl (rValidSet_spec (hs.ext (flat_lifts _) hB17)) rfl ?_
    rintro _ W18 ⟨rfl, hE19⟩
    exact ⟨told rfl rfl rfl, hE19⟩
  · intro W13 hW14
    rintro _ rfl
    refine gather_nil ?_
    refine opg_none rfl ?_
    exact op_not rfl rfl ⟨told rfl rfl rfl, (Below.refl _ _)⟩
  · intro W13 hW14
    rintro _ rfl
    refine gather_nil ?_
    refine opg_none rfl ?_
    exact op_move rfl rfl ⟨told rfl rfl rfl, (Below.refl _ _)⟩
  · intro W13 hW14
    rintro _ rfl
    refine gather_nil ?_
    refine opg_f1 rfl rfl (fun hg20 => ?_) (fun h => by rw [h, cond_false])
    exact op_move rfl rfl ⟨told rfl rfl (by rw [hg20, cond_true]), (Below.refl _ _)⟩
  · intro W13 hW14
    rintro _ rfl
    intro v21 (hv22 : v21 = bif (!(!(validSet a))) then (.slice A2 n2 c2) else undef)
    refine gather_nil ?_
    refine opg_f1 rfl rfl (fun hg23 => ?_) (fun h => by rw [h, cond_false])
    obtain rfl : v21 = .slice A2 n2 c2 := by rw [hv22, hg23, cond_true]
    have hB24 : Below w.heap.size w W13 := (below_step (Below.refl _ _) hW14)
    refine op_call ent28 rfl (rValidSet_spec (hs2.ext (flat_lifts _) hB24)) rfl ?_
    rintro _ W25 ⟨rfl, hE26⟩
    exact ⟨told rfl rfl (by rw [hg23, cond_true]), hE26⟩
  · intro W13 hW14
    rintro _ rfl
    intro v27 (hv28 : v27 = bif (!(!(validSet a))) then (.bool (validSet b)) else undef)
    refine gather_nil ?_
    refine opg_f1 rfl rfl (fun hg29 => ?_) (fun h => by rw [h, cond_false])
    obtain rfl : v27 = .bool (validSet b) := by rw [hv28, hg29, cond_true]
    exact op_not rfl rfl ⟨told rfl rfl (by rw [hg29, cond_true]), (Below.refl _ _)⟩
  · intro W13 hW14
    rintro _ rfl
    intro v30 (hv31 : v30 = bif (!(!(validSet a))) then (.bool (!(validSet b))) else undef)
    refine gather_nil ?_
    refine opg_none rfl ?_
    exact op_or rfl rfl rfl (fun h => by rw [hv31, (not_i h), cond_true]) rfl ⟨told rfl rfl rfl, (Below.refl _ _)⟩
  intro W32 hW33
  rintro _ rfl
  refine gather_nil ?_
  refine (then_norm ?_)
  refine wc_cond (b := (!(validSet a)) || (!(validSet b))) rfl (fun hc34 => ?_) (fun hc34 => ?_)
  · have hinv : ¬ (validSet a = true ∧ validSet b = true) := by intro h; rw [h.1, h.2] at hc34; cases hc34
    refine wc_seq ?_
    refine wc_region ?_
    refine wl_op rfl (op_assign rfl rfl ?_)
    refine wl_op rfl (op_assign rfl rfl ?_)
    refine (wl_done (then_norm ?_))
    refine wc_ret ?_
    refine (then_ret ?_)
    have hB35 : Below w.heap.size w W32 := (below_step (Below.refl _ _) hW33)
    refine ⟨[_, _], ⟨rfl, rfl, trivial⟩, ⟨?_, hB35⟩⟩
    rw [rSameR, overE, if_neg hinv, if_neg hinv]
    rfl
  · have hval : validSet a = true ∧ validSet b = true := by simpa using hc34
    refine wc_skip ?_
    refine (then_norm ?_)
    refine wc_seq ?_
    refine wc_seq ?_
    refine wc_region ?_
    refine wl_op rfl (op_assign rfl rfl ?_)
    refine (wl_done (then_norm ?_))
    refine wc_block ?_
    refine wc_loop (σ := Nat × World) (fun st_ => [(0, .slice A n c), (1, .slice A2 n2 c2), (4, .bool false), (5, .int .i64 0), (6, .int .i64 ((st_.1 + 1 : Nat) : Int))]) (fun st_ => st_.2) (fun st_ => (st_.1 ≤ 13) ∧ (∀ i : Nat, i < st_.1 → valueOf a ((i : Int) + 1) = valueOf b ((i : Int) + 1)) ∧ (Below W32.heap.size W32 st_.2)) (fun st_ => 13 - st_.1) (0, W32) ⟨(by first | omega | (dsimp only; omega)), (fun i hi => absurd hi (by omega)), (Below.refl _ _)⟩ ⟨rfl, rfl, rfl, rfl, rfl, trivial⟩ rfl ?_
    rintro ⟨k, W36⟩ ⟨hk, hall, hE37⟩
    dsimp only at hk hall hE37
    refine wc_at [(0, .slice A n c), (1, .slice A2 n2 c2), (4, .bool false), (5, .int .i64 0), (6, .int .i64 ((k + 1 : Nat) : Int))] W36 ⟨rfl, rfl, rfl, rfl, rfl, trivial⟩ rfl ?_
    refine wc_seq ?_
    refine wc_seq ?_
    refine wc_region ?_
    refine wl_op rfl (op_move rfl rfl ?_)
    refine wl_op rfl (op_leq rfl rfl rfl ?_)
    refine (wl_done (then_norm ?_))
    refine wc_cond (b := decide (((k + 1 : Nat) : Int) ≤ 13)) rfl (fun hc38 => ?_) (fun hc38 => ?_)
    · have hc38r := hc38
      have hc38 := of_decide_eq_true hc38
      refine wc_skip ?_
      refine (then_norm ?_)
      refine wc_seq ?_
      refine wc_block ?_
      refine wc_seq ?_
      refine wc_region ?_
      refine wl_op rfl (op_move rfl rfl ?_)
      refine wl_op rfl (op_move rfl rfl ?_)
      have hB39 : Below w.heap.size w W36 := (below_step (below_step (Below.refl _ _) hW33) hE37)
      refine wl_op rfl (op_call ent48 rfl (rvalue_spec (hs.ext (flat_lifts _) hB39)) rfl ?_)
      rintro _ W40 ⟨rfl, hE41⟩
      refine wl_op rfl (op_move rfl rfl ?_)
      refine wl_op rfl (op_move rfl rfl ?_)
      have hB42 : Below w.heap.size w W40 := (below_step hB39 hE41)
      refine wl_op rfl (op_call ent48 rfl (rvalue_spec (hs2.ext (flat_lifts _) hB42)) rfl ?_)
      rintro _ W43 ⟨rfl, hE44⟩
      refine wl_op rfl (op_neq rfl rfl rfl ?_)
      refine (wl_done (then_norm ?_))
      refine wc_cond (b := !decide (valueOf a ((k + 1 : Nat) : Int) = valueOf b ((k + 1 : Nat) : Int))) rfl (fun hc45 => ?_) (fun hc45 => ?_)
      · have hc45r := hc45
        have hc45 := of_decide_eq_false (not_t hc45)
        have hne : ¬ valueOf a ((k : Int) + 1) = valueOf b ((k : Int) + 1) := by have := hc45; push_cast at this; exact this
        refine wc_seq ?_
        refine wc_region ?_
        refine wl_op rfl (op_assign rfl rfl ?_)
        refine wl_op rfl (op_assign rfl rfl ?_)
        refine (wl_done (then_norm ?_))
        refine wc_ret ?_
        refine (block_ret (then_ret (then_ret (block_ret (then_ret ?_)))))
        have hB46 : Below w.heap.size w W43 := (below_step hB42 hE44)
        refine ⟨[_, _], ⟨rfl, rfl, trivial⟩, ⟨?_, hB46⟩⟩
        rw [rsame_no hval (by omega) hne, overE, if_pos hval]
        rfl
      · have hc45r := hc45
        have hc45 := of_decide_eq_true (not_f hc45)
        refine wc_skip ?_
        refine (block_norm (then_norm ?_))
        refine wc_region ?_
        refine wl_op rfl (op_move rfl rfl ?_)
        refine wl_op rfl (op_add (r := ((k + 1 + 1 : Nat) : Int)) rfl rfl (by omega) (by omega) rfl ?_)
        refine wl_op rfl (op_assign rfl rfl ?_)
        refine (wl_done (then_norm ?_))
        have hB47 : Below W32.heap.size W32 W43 := (below_step (below_step (below_step (Below.refl _ _) hE37) hE41) hE44)
        refine ⟨((k + 1), W43), ⟨(by first | omega | (dsimp only; omega)), (all_succ hall (by have := hc45; push_cast at this; exact this)), hB47⟩, ?_, ⟨rfl, rfl, rfl, rfl, rfl, trivial⟩, rfl⟩
        · dsimp only; omega
    · have hc38r := hc38
      have hc38 := of_decide_eq_false hc38
      refine wc_exit ?_
      refine (then_exit (then_exit (block_here (then_norm ?_))))
      refine wc_seq ?_
      refine wc_region ?_
      refine wl_op rfl (op_assign rfl rfl ?_)
      refine wl_op rfl (op_assign rfl rfl ?_)
      refine (wl_done (then_norm ?_))
      refine wc_ret ?_
      have hB48 : Below w.heap.size w W36 := (below_step (below_step (Below.refl _ _) hW33) hE37)
      refine ⟨[_, _], ⟨rfl, rfl, trivial⟩, ⟨?_, hB48⟩⟩
      rw [rsame_yes hval (fun i hi => hall i (by omega)), overE, if_pos hval]
      rfl

end Go.Eng

set_option linter.unusedVariables false
set_option maxRecDepth 100000
namespace Go.Eng
open Go.RowKit Go.Shelf Go.Proofs Pol



theorem srt_ext : ∀ {s t : List Pol}, srt s → srt t → (∀ z, z ∈ s ↔ z ∈ t) → s = t := by
  intro s
  induction s with
  | nil =>
    intro t _ _ h
    cases t with
    | nil => rfl
    | cons y ys => have := (h y).2 (by simp); cases this
  | cons x xs ih =>
    intro t hs ht h
    cases t with
    | nil => have := (h x).1 (by simp); cases this
    | cons y ys =>
      rw [srt_cons] at hs ht
      have hxy : x = y := by
        rcases List.mem_cons.1 ((h x).1 (by simp)) with e | h1
        · exact e
        · rcases List.mem_cons.1 ((h y).2 (by simp)) with e | h2
          · exact e.symm
          · have := hs.1 y h2; have := ht.1 x h1; omega
      subst hxy
      congr 1
      refine ih hs.2 ht.2 fun z => ⟨fun hz => ?_, fun hz => ?_⟩
      · rcases List.mem_cons.1 ((h z).1 (by simp [hz])) with e | h1
        · subst e; have := hs.1 z hz; omega
        · exact h1
      · rcases List.mem_cons.1 ((h z).2 (by simp [hz])) with e | h1
        · subst e; have := ht.1 z hz; omega
        · exact h1
theorem overL_iff {a b : List Pol} : srt a → srt b → ∀ z, z ∈ overL a b ↔ z ∈ b ∨ (z ∈ a ∧ ∀ y, y ∈ b → ¬ y.kind = z.kind) := by
  fun_induction overL a b with
  | case1 ys => intro _ _ z; simp
  | case2 x xs ih => intro _ _ z; rw [overL_nil_r]; simp
  | case3 x xs y ys h ih =>
    intro h1 h2 z
    have h2' := h2
    rw [srt_cons] at h1 h2
    rw [List.mem_cons, ih h1.2 h2' z]
    have hx : ∀ y', y' ∈ y :: ys → ¬ y'.kind = x.kind := by
      intro y' hy'
      rcases List.mem_cons.1 hy' with rfl | hy'
      · omega
      · have := h2.1 y' hy'; omega
    constructor
    · rintro (rfl | hz | ⟨hz, hn⟩)
      · exact .inr ⟨by simp, hx⟩
      · exact .inl hz
      · exact .inr ⟨by simp [hz], hn⟩
    · rintro (hz | ⟨hz, hn⟩)
      · exact .inr (.inl hz)
      · rcases List.mem_cons.1 hz with rfl | hz
        · exact .inl rfl
        · exact .inr (.inr ⟨hz, hn⟩)
  | case4 x xs y ys h h' ih =>
    intro h1 h2 z
    rw [srt_cons] at h1 h2
    rw [List.mem_cons, ih h1.2 h2.2 z]
    constructor
    · rintro (rfl | hz | ⟨hz, hn⟩)
      · exact .inl (by simp)
      · exact .inl (by simp [hz])
      · refine .inr ⟨by simp [hz], fun y' hy' => ?_⟩
        rcases List.mem_cons.1 hy' with rfl | hy'
        · have := h1.1 z hz; omega
        · exact hn y' hy'
    · rintro (hz | ⟨hz, hn⟩)
      · rcases List.mem_cons.1 hz with rfl | hz
        · exact .inl rfl
        · exact .inr (.inl hz)
      · rcases List.mem_cons.1 hz with rfl | hz
        · exact absurd h'.symm (hn y (by simp))
        · exact .inr (.inr ⟨hz, fun y' hy' => hn y' (by simp [hy'])⟩)
  | case5 x xs y ys h h' ih =>
    intro h1 h2 z
    have h1' := h1
    rw [srt_cons] at h1 h2
    rw [List.mem_cons, ih h1' h2.2 z]
    constructor
    · rintro (rfl | hz | ⟨hz, hn⟩)
      · exact .inl (by simp)
      · exact .inl (by simp [hz])
      · refine .inr ⟨hz, fun y' hy' => ?_⟩
        rcases List.mem_cons.1 hy' with rfl | hy'
        · rcases List.mem_cons.1 hz with rfl | hz
          · omega
          · have := h1.1 z hz; omega
        · exact hn y' hy'
    · rintro (hz | ⟨hz, hn⟩)
      · rcases List.mem_cons.1 hz with rfl | hz
        · exact .inl rfl
        · exact .inr (.inl hz)
      · exact .inr (.inr ⟨hz, fun y' hy' => hn y' (by simp [hy'])⟩)
theorem srt_unique {s : List Pol} (h : srt s) {x y : Pol} (hx : x ∈ s) (hy : y ∈ s) (hk : x.kind = y.kind) : x = y := by
  induction s with
  | nil => cases hx
  | cons z zs ih =>
    rw [srt_cons] at h
    rcases List.mem_cons.1 hx with e1 | h1
    · rcases List.mem_cons.1 hy with e2 | h2
      · rw [e1, e2]
      · have := h.1 y h2; rw [e1] at hk; omega
    · rcases List.mem_cons.1 hy with e2 | h2
      · have := h.1 x h1; rw [e2] at hk; omega
      · exact ih h.2 h1 h2
theorem over_assoc {a b c : List Pol} (ha : srt a) (hb : srt b) (hc : srt c) : overL (overL a b) c = overL a (overL b c) := by
  refine srt_ext (overL_srt (overL_srt ha hb) hc) (overL_srt ha (overL_srt hb hc)) fun z => ?_
  rw [overL_iff (overL_srt ha hb) hc, overL_iff ha hb, overL_iff ha (overL_srt hb hc), overL_iff hb hc]
  constructor
  · rintro (h | ⟨h | ⟨h1, h2⟩, h3⟩)
    · exact .inl (.inl h)
    · exact .inl (.inr ⟨h, h3⟩)
    · exact .inr ⟨h1, fun y hy => ((overL_iff hb hc y).1 hy).elim (h3 y) (fun h => h2 y h.1)⟩
  · rintro ((h | ⟨h1, h2⟩) | ⟨h1, h2⟩)
    · exact .inl h
    · exact .inr ⟨.inl h1, h2⟩
    · have hc' : ∀ y, y ∈ c → ¬ y.kind = z.kind := fun y hy => h2 y ((overL_iff hb hc y).2 (.inl hy))
      refine .inr ⟨.inr ⟨h1, fun y hy e => ?_⟩, hc'⟩
      exact h2 y ((overL_iff hb hc y).2 (.inr ⟨hy, fun y' hy' e' => hc' y' hy' (by omega)⟩)) e
theorem over_self {a : List Pol} (ha : srt a) : overL a a = a := by
  refine srt_ext (overL_srt ha ha) ha fun z => ?_
  rw [overL_iff ha ha]
  exact ⟨fun h => h.elim id (fun h => h.1), .inl⟩
theorem lastOf_mem {l : List Pol} {q : Int} {z : Pol} (h : lastOf l q = some z) : z ∈ l ∧ z.kind = q := by
  have := List.mem_of_getLast? h
  rw [List.mem_filter] at this
  exact ⟨this.1, by simpa using this.2⟩
theorem lastOf_srt {l : List Pol} (hl : srt l) {z : Pol} (hz : z ∈ l) : lastOf l z.kind = some z := by
  cases h : lastOf l z.kind with
  | none =>
    have : l.filter (fun p => decide (p.kind = z.kind)) = [] := List.getLast?_eq_none_iff.1 h
    rw [List.filter_eq_nil_iff] at this
    exact absurd (decide_eq_true rfl) (this z hz)
  | some y =>
    obtain ⟨h1, h2⟩ := lastOf_mem h
    rw [srt_unique hl h1 hz h2]
theorem lastOf_append {a b : List Pol} {q : Int} : lastOf (a ++ b) q = (lastOf b q).or (lastOf a q) := by
  unfold lastOf; rw [List.filter_append, List.getLast?_append]
theorem gath_mem {l : List Pol} {z : Pol} : z ∈ gath l ↔ (1 ≤ z.kind ∧ z.kind ≤ 13) ∧ lastOf l z.kind = some z := by
  unfold gath gathK
  rw [List.mem_filterMap]
  constructor
  · rintro ⟨i, hi, h⟩
    have hi := List.mem_range.1 hi
    have hk := (lastOf_mem h).2
    exact ⟨by omega, by rw [hk]; exact h⟩
  · rintro ⟨⟨h1, h2⟩, h3⟩
    refine ⟨z.kind.toNat - 1, List.mem_range.2 (by omega), ?_⟩
    have : ((z.kind.toNat - 1 : Nat) : Int) + 1 = z.kind := by omega
    rw [this]; exact h3
theorem gathK_srt (l : List Pol) (k : Nat) : srt (gathK l k) ∧ ∀ z, z ∈ gathK l k → z.kind ≤ (k : Int) := by
  induction k with
  | zero => exact ⟨List.Pairwise.nil, fun z h => by cases h⟩
  | succ k ih =>
    cases h : lastOf l ((k : Int) + 1) with
    | none => rw [gathK_none h]; exact ⟨ih.1, fun z hz => by have := ih.2 z hz; omega⟩
    | some x =>
      have hx := (lastOf_mem h).2
      rw [gathK_some h]
      refine ⟨?_, fun z hz => ?_⟩
      · rw [srt, List.pairwise_append]
        refine ⟨ih.1, List.pairwise_singleton _ _, fun u hu v hv => ?_⟩
        rw [List.mem_singleton] at hv; subst hv
        have := ih.2 u hu; omega
      · rcases List.mem_append.1 hz with hz | hz
        · have := ih.2 z hz; omega
        · rw [List.mem_singleton] at hz; subst hz; omega
theorem gath_step {x b : List Pol} (hb : validSet b = true) : gath (x ++ b) = overL (gath x) b := by
  rw [valid_iff] at hb
  refine srt_ext (gathK_srt _ _).1 (overL_srt (gathK_srt _ _).1 hb.1) fun z => ?_
  rw [gath_mem, overL_iff (gathK_srt _ _).1 hb.1, lastOf_append, gath_mem]
  constructor
  · rintro ⟨hk, h⟩
    cases h2 : lastOf b z.kind with
    | some y => rw [h2] at h; simp at h; subst h; exact .inl (lastOf_mem h2).1
    | none =>
      rw [h2] at h; simp at h
      refine .inr ⟨⟨hk, h⟩, fun y hy e => ?_⟩
      rw [← e, lastOf_srt hb.1 hy] at h2; cases h2
  · rintro (h | ⟨h1, h2⟩)
    · exact ⟨valid_kind (hb.2 z h), by rw [lastOf_srt hb.1 h]; rfl⟩
    · refine ⟨h1.1, ?_⟩
      have : lastOf b z.kind = none := lastOf_none (fun i y hy => h2 y (List.mem_of_getElem? hy))
      rw [this, h1.2]; rfl
theorem gath_nil : gath [] = [] := rfl
theorem gath_one {a : List Pol} (ha : validSet a = true) : gath a = a := by
  have := gath_step (x := []) ha
  rw [List.nil_append, gath_nil, overL_nil] at this; exact this
theorem gath_over {a b : List Pol} (ha : validSet a = true) (hb : validSet b = true) : gath (a ++ b) = overL a b := by
  rw [gath_step hb, gath_one ha]
theorem gath_fold {l : List (List Pol)} : ∀ {x : List Pol}, allV l = true → l.foldl overL (gath x) = gath (x ++ l.flatten) := by
  induction l with
  | nil => intro x _; simp
  | cons s l ih =>
    intro x h
    simp only [allV, List.all_cons, Bool.and_eq_true] at h
    rw [List.foldl_cons, ← gath_step h.1, ih (by simpa [allV] using h.2), List.flatten_cons, List.append_assoc]
theorem gath_flat {l : List (List Pol)} (h : allV l = true) : gath l.flatten = effL l := by
  have := gath_fold (x := []) h
  rw [gath_nil, List.nil_append] at this; exact this.symm
theorem over_eq (a b : List Pol) : overR a b = rOverR a b := by
  unfold overR rOverR
  split
  · rename_i h; exact (gath_over h.1 h.2).symm
  · rfl
theorem eff_eq (l : List (List Pol)) : effR l = rEffR l := by
  unfold effR rEffR
  split
  · rename_i h; exact (gath_flat h).symm
  · rfl
theorem plain_srt {a : List Pol} (h : validSet a = true) : srt (chosenL a keepPlain) := (valid_iff.1 (chosen_set h _)).1
theorem plain_mem {a : List Pol} (h : validSet a = true) {z : Pol} : z ∈ chosenL a keepPlain ↔ z ∈ a ∧ ¬ z.val = leastI z.kind := by
  rw [chosenL, if_pos h, List.mem_filter]; simp [keepPlain]
theorem plain_val {a : List Pol} (h : validSet a = true) {z : Pol} : (z ∈ a ∧ ¬ z.val = leastI z.kind) ↔ ((1 ≤ z.kind ∧ z.kind ≤ 13) ∧ valueOf a z.kind = z.val ∧ ¬ z.val = leastI z.kind) := by
  constructor
  · rintro ⟨h1, h2⟩; exact ⟨valid_kind (mem_valid h h1), valueOf_mem (valid_asc h) h1 rfl, h2⟩
  · rintro ⟨h0, h1, h2⟩
    refine ⟨?_, h2⟩
    by_cases hx : ∃ x, x ∈ a ∧ x.kind = z.kind
    · obtain ⟨x, hx1, hx2⟩ := hx
      have := valueOf_mem (valid_asc h) hx1 hx2
      have e : x = z := by
        cases x; cases z; simp at hx2 this h1 ⊢; exact ⟨hx2, by omega⟩
      rw [← e]; exact hx1
    · exact absurd (h1.symm.trans (valueOf_no (fun x hx1 hx2 => hx ⟨x, hx1, hx2⟩))) h2
theorem same_eq (a b : List Pol) : sameR a b = rSameR a b := by
  by_cases hv : validSet a = true ∧ validSet b = true
  · rw [sameR, if_pos hv]
    by_cases h : ∀ k : Nat, k < 13 → valueOf a ((k : Int) + 1) = valueOf b ((k : Int) + 1)
    · rw [rsame_yes hv h]
      refine decide_eq_true (srt_ext (plain_srt hv.1) (plain_srt hv.2) fun z => ?_)
      rw [plain_mem hv.1, plain_mem hv.2, plain_val hv.1, plain_val hv.2]
      have hk : (1 ≤ z.kind ∧ z.kind ≤ 13) → valueOf a z.kind = valueOf b z.kind := fun h0 => by
        have := h (z.kind.toNat - 1) (by omega)
        rwa [show ((z.kind.toNat - 1 : Nat) : Int) + 1 = z.kind by omega] at this
      constructor
      · rintro ⟨h0, h1, h2⟩; exact ⟨h0, by rw [← hk h0]; exact h1, h2⟩
      · rintro ⟨h0, h1, h2⟩; exact ⟨h0, by rw [hk h0]; exact h1, h2⟩
    · have ⟨k, hk1, hk2⟩ : ∃ k : Nat, k < 13 ∧ ¬ valueOf a ((k : Int) + 1) = valueOf b ((k : Int) + 1) := by
        apply Classical.byContradiction
        intro hn
        exact h fun k hk => Classical.byContradiction fun hc => hn ⟨k, hk, hc⟩
      rw [rsame_no hv hk1 hk2]
      refine decide_eq_false fun e => hk2 ?_
      rw [← valueOf_plain hv.1, ← valueOf_plain hv.2, e]
  · rw [sameR, rSameR, if_neg hv, if_neg hv]

theorem rdl3 {w : World} {b : Nat} {A1 A2 A3 : Option Addr} {n1 n2 n3 c1 c2 c3 : Nat} {x y z : List Pol} {T : TypeId} {fr : Nat × Nat} (hb : w.heap[b]? = some (.cells #[.slice A1 n1 c1, .slice A2 n2 c2, .slice A3 n3 c3] T fr))
    (h1 : RdP w A1 n1 x) (h2 : RdP w A2 n2 y) (h3 : RdP w A3 n3 z) (k1 : n1 ≤ c1) (k2 : n2 ≤ c2) (k3 : n3 ≤ c3) (l1 : n1 ≤ 200) (l2 : n2 ≤ 200) (l3 : n3 ≤ 200) : RdL w (some ⟨b, 0, none⟩) 3 [x, y, z] := by
  refine rd_of_rows (R := RLev) (xs := [x, y, z]) ⟨⟨[.slice A1 n1 c1], rfl, ⟨_, _, _, rfl, h1, k1, l1⟩, fun i v hi => ?_⟩, ⟨[.slice A2 n2 c2], rfl, ⟨_, _, _, rfl, h2, k2, l2⟩, fun i v hi => ?_⟩, ⟨[.slice A3 n3 c3], rfl, ⟨_, _, _, rfl, h3, k3, l3⟩, fun i v hi => ?_⟩, trivial⟩ rfl rfl
  all_goals
    cases i with
    | zero => simp at hi; subst hi; exact cell_blk hb rfl
    | succ i => simp at hi
theorem short3 {A1 A2 A3 : Option Addr} {n1 n2 n3 c1 c2 c3 : Nat} (h : shortH [⟨A1, n1, c1⟩, ⟨A2, n2, c2⟩, ⟨A3, n3, c3⟩] = true) : n1 ≤ 200 ∧ n2 ≤ 200 ∧ n3 ≤ 200 := by
  simp [shortH] at h; omega
theorem overR_len (a b : List Pol) : (overR a b).length ≤ a.length + b.length := by
  unfold overR; split
  · exact overL_len a b
  · simp
theorem effE_0 {a b c : List Pol} (h : effE [a, b, c] = 0) : validSet a = true ∧ validSet b = true ∧ validSet c = true := by
  unfold effE at h
  split at h
  · rename_i h'; simpa [allV, and_assoc] using h'
  · cases h

end Go.Eng

set_option linter.unusedVariables false
set_option maxRecDepth 100000
namespace Go.Eng
open Go.RowKit Go.Shelf Go.Proofs Pol

theorem ent16 : Enters Try.prog 16 := enters_of Try.func16 (by kernel_rfl) rfl
theorem ent17 : Enters Try.prog 17 := enters_of Try.func17 (by kernel_rfl) rfl
theorem ent18 : Enters Try.prog 18 := enters_of Try.func18 (by kernel_rfl) rfl
theorem ent19 : Enters Try.prog 19 := enters_of Try.func19 (by kernel_rfl) rfl
theorem ent20 : Enters Try.prog 20 := enters_of Try.func20 (by kernel_rfl) rfl
theorem und4 : Und Try.prog 4 .bool := by unfold Und; kernel_rfl

theorem over_law {a b c : List Pol} (ha : validSet a = true) (hb : validSet b = true) (hc : validSet c = true) :
    (((((decide (overR (overR a b) c = overR a (overR b c))) && (decide (overR (overR a b) c = effR [a, b, c]))) && (decide (overR a a = a))) && (decide (sameR a b = decide (chosenL a keepPlain = chosenL b keepPlain)))) && true) = true := by
  have h1 : overR a b = overL a b := if_pos ⟨ha, hb⟩
  have h2 : overR b c = overL b c := if_pos ⟨hb, hc⟩
  have hab := overL_valid ha hb
  have hbc := overL_valid hb hc
  have h3 : overR (overL a b) c = overL (overL a b) c := if_pos ⟨hab, hc⟩
  have h4 : overR a (overL b c) = overL a (overL b c) := if_pos ⟨ha, hbc⟩
  have h5 : overR a a = overL a a := if_pos ⟨ha, ha⟩
  have h6 : effR [a, b, c] = overL (overL a b) c := by
    have : allV [a, b, c] = true := by simp [allV, ha, hb, hc]
    rw [effR, if_pos this]
    show overL (overL (overL [] a) b) c = _
    rw [overL_nil]
  have h7 : sameR a b = decide (chosenL a keepPlain = chosenL b keepPlain) := if_pos ⟨ha, hb⟩
  have sa := (valid_iff.1 ha).1
  have sb := (valid_iff.1 hb).1
  have sc := (valid_iff.1 hc).1
  rw [h1, h2, h3, h4, h5, h6, h7, over_assoc sa sb sc, over_self sa]; simp
theorem over_cmp (a b c : List Pol) : ((((((!decide (overR a b = rOverR a b)) || (!decide (overE a b = overE a b))) || (!decide (effR [a, b, c] = rEffR [a, b, c]))) || (!decide (effE [a, b, c] = effE [a, b, c]))) || (!decide (sameR a b = rSameR a b))) || (!decide (overE a b = overE a b))) = false := by
  rw [over_eq, eff_eq, same_eq]; simp

theorem PolicyOver_spec {w : World} {A : Option Addr} {n c : Nat} {a : List Pol} {A2 : Option Addr} {n2 c2 : Nat} {b : List Pol} {A3 : Option Addr} {n3 c3 : Nat} {d : List Pol} (hs : RdP w A n a) (hs2 : RdP w A2 n2 b) (hs3 : RdP w A3 n3 d) (hc : n ≤ c) (hc2 : n2 ≤ c2) (hc3 : n3 ≤ c3) : Ret Try.prog 4 #[.slice A n c, .slice A2 n2 c2, .slice A3 n3 c3] w (fun v w' => v = .bool true ∧ Below w.heap.size w w') := by
  obtain ⟨bs1, os2, hA3, hc4⟩ := hs.flat
  have hln5 := hs.len
  have hbd6 := hs.bd
  have hlen_a := hs.len
  obtain ⟨bs7, os8, hA9, hc10⟩ := hs2.flat
  have hln11 := hs2.len
  have hbd12 := hs2.bd
  have hlen_b := hs2.len
  obtain ⟨bs13, os14, hA15, hc16⟩ := hs3.flat
  have hln17 := hs3.len
  have hbd18 := hs3.bd
  have hlen_d := hs3.len
  refine ret_of (args := [.slice A n c, .slice A2 n2 c2, .slice A3 n3 c3]) Try.func4 rfl Try.ntmps4 rfl (rs := [.tmp 6]) rfl ?_
  refine wc_seq ?_
  refine wc_region ?_
  refine wl_op rfl (op_assign rfl rfl ?_)
  refine (wl_done (then_norm ?_))
  refine wc_seq ?_
  refine wc_seq ?_
  refine wc_region ?_
  refine wl_op rfl (op_move rfl rfl ?_)
  refine wl_op rfl (op_move rfl rfl ?_)
  refine wl_op rfl (op_move rfl rfl ?_)
  refine wl_op rfl (op_buildSlice (cs := #[.slice A n c, .slice A2 n2 c2, .slice A3 n3 c3]) (e := 22) rfl (fun w => by kernel_rfl) rfl ?_)
  intro W19 b20 hN21
  have hb22 : W19.heap[b20]? = some (.cells #[.slice A n c, .slice A2 n2 c2, .slice A3 n3 c3] 22 (0, 0)) := hN21.blk
  refine wl_op rfl (op_call ent6 rfl (short_spec (rd_of_blk (enc := encH) [(⟨A, n, c⟩ : Hdr), (⟨A2, n2, c2⟩ : Hdr), (⟨A3, n3, c3⟩ : Hdr)] hb22 (fun _ => rfl) rfl rfl rfl)) rfl ?_)
  rintro _ W23 ⟨rfl, hE24⟩
  refine wl_op rfl (op_not rfl rfl ?_)
  refine (wl_done (then_norm ?_))
  refine wc_cond (b := !(shortH [(⟨A, n, c⟩ : Hdr), (⟨A2, n2, c2⟩ : Hdr), (⟨A3, n3, c3⟩ : Hdr)])) rfl (fun hc25 => ?_) (fun hc25 => ?_)
  · refine wc_seq ?_
    refine wc_region ?_
    refine wl_op rfl (op_call ent7 rfl (awake_spec) rfl ?_)
    rintro _ W26 ⟨rfl, hE27⟩
    refine wl_op rfl (op_assign rfl rfl ?_)
    refine (wl_done (then_norm ?_))
    refine WC.sub [(0, .slice A n c), (1, .slice A2 n2 c2), (2, .slice A3 n3 c3), (6, .bool true)] ⟨rfl, rfl, rfl, rfl, trivial⟩ ?_
    refine wc_ret ?_
    refine (then_ret ?_)
    have hB28 : Below w.heap.size w W26 := (below_step (below_step (below_new (Below.refl _ _) hN21) hE24) hE27)
    refine ⟨[_], ⟨rfl, trivial⟩, ⟨?_, hB28⟩⟩
    exact rfl
  · have hsh := short3 (by simpa using hc25)
    have hla := overR_len a b
    have hlb := overR_len b d
    obtain ⟨hn1, hn2, hn3⟩ := hsh
    have hsh := And.intro hn1 (And.intro hn2 hn3)
    refine wc_skip ?_
    refine (then_norm ?_)
    refine WC.sub [(0, .slice A n c), (1, .slice A2 n2 c2), (2, .slice A3 n3 c3), (6, .bool false)] ⟨rfl, rfl, rfl, rfl, trivial⟩ ?_
    refine wc_seq ?_
    refine wc_region ?_
    refine wl_op rfl (op_move rfl rfl ?_)
    refine wl_op rfl (op_move rfl rfl ?_)
    have hB29 : Below w.heap.size w W23 := (below_step (below_new (Below.refl _ _) hN21) hE24)
    refine wl_op rfl (op_call ent15 rfl (Over_spec (hs.ext (flat_lifts _) hB29) (hs2.ext (flat_lifts _) hB29) (by omega) (by omega) (by omega) (by omega)) rfl ?_)
    rintro _ W35 ⟨A130, n131, c132, rfl, hp33, hp34, hE36⟩
    have := hp33.len
    refine wl_op rfl (op_move rfl rfl ?_)
    refine wl_op rfl (op_extract (v := .slice A130 n131 c132) rfl rfl rfl ?_)
    refine wl_op rfl (op_extract (v := .int .i64 (overE a b)) rfl rfl rfl ?_)
    refine wl_op rfl (op_assign rfl rfl ?_)
    refine wl_op rfl (op_assign rfl rfl ?_)
    refine (wl_done (then_norm ?_))
    refine WC.sub [(0, .slice A n c), (1, .slice A2 n2 c2), (2, .slice A3 n3 c3), (6, .bool false), (7, .slice A130 n131 c132), (8, .int .i64 (overE a b))] ⟨rfl, rfl, rfl, rfl, rfl, rfl, trivial⟩ ?_
    refine wc_seq ?_
    refine wc_region ?_
    refine wl_op rfl (op_move rfl rfl ?_)
    refine wl_op rfl (op_move rfl rfl ?_)
    have hB37 : Below w.heap.size w W35 := (below_step hB29 hE36)
    refine wl_op rfl (op_call ent16 rfl (rOver_spec (hs.ext (flat_lifts _) hB37) (hs2.ext (flat_lifts _) hB37) (by omega) (by omega)) rfl ?_)
    rintro _ W43 ⟨A138, n139, c140, rfl, hp41, hp42, hE44⟩
    refine wl_op rfl (op_move rfl rfl ?_)
    refine wl_op rfl (op_extract (v := .slice A138 n139 c140) rfl rfl rfl ?_)
    refine wl_op rfl (op_extract (v := .int .i64 (overE a b)) rfl rfl rfl ?_)
    refine wl_op rfl (op_assign rfl rfl ?_)
    refine wl_op rfl (op_assign rfl rfl ?_)
    refine (wl_done (then_norm ?_))
    refine WC.sub [(0, .slice A n c), (1, .slice A2 n2 c2), (2, .slice A3 n3 c3), (6, .bool false), (7, .slice A130 n131 c132), (8, .int .i64 (overE a b)), (9, .slice A138 n139 c140), (10, .int .i64 (overE a b))] ⟨rfl, rfl, rfl, rfl, rfl, rfl, rfl, rfl, trivial⟩ ?_
    refine wc_seq ?_
    refine wc_region ?_
    refine wl_op rfl (op_move rfl rfl ?_)
    refine wl_op rfl (op_move rfl rfl ?_)
    refine wl_op rfl (op_move rfl rfl ?_)
    refine wl_op rfl (op_buildSlice (cs := #[.slice A n c, .slice A2 n2 c2, .slice A3 n3 c3]) (e := 22) rfl (fun w => by kernel_rfl) rfl ?_)
    intro W45 b46 hN47
    have hb48 : W45.heap[b46]? = some (.cells #[.slice A n c, .slice A2 n2 c2, .slice A3 n3 c3] 22 (0, 0)) := hN47.blk
    have hB49 : Below w.heap.size w W45 := (below_new (below_step hB37 hE44) hN47)
    refine wl_op rfl (op_call ent17 rfl (Effective_spec (rdl3 hb48 (hs.ext (flat_lifts _) hB49) (hs2.ext (flat_lifts _) hB49) (hs3.ext (flat_lifts _) hB49) hc hc2 hc3 hsh.1 hsh.2.1 hsh.2.2) (by omega) (l := [a, b, d])) rfl ?_)
    rintro _ W55 ⟨A150, n151, c152, rfl, hp53, hp54, hE56⟩
    refine wl_op rfl (op_move rfl rfl ?_)
    refine wl_op rfl (op_extract (v := .slice A150 n151 c152) rfl rfl rfl ?_)
    refine wl_op rfl (op_extract (v := .int .i64 (effE [a, b, d])) rfl rfl rfl ?_)
    refine wl_op rfl (op_assign rfl rfl ?_)
    refine wl_op rfl (op_assign rfl rfl ?_)
    refine (wl_done (then_norm ?_))
    refine WC.sub [(0, .slice A n c), (1, .slice A2 n2 c2), (2, .slice A3 n3 c3), (6, .bool false), (7, .slice A130 n131 c132), (8, .int .i64 (overE a b)), (9, .slice A138 n139 c140), (10, .int .i64 (overE a b)), (11, .slice A150 n151 c152), (12, .int .i64 (effE [a, b, d]))] ⟨rfl, rfl, rfl, rfl, rfl, rfl, rfl, rfl, rfl, rfl, trivial⟩ ?_
    refine wc_seq ?_
    refine wc_region ?_
    refine wl_op rfl (op_move rfl rfl ?_)
    refine wl_op rfl (op_move rfl rfl ?_)
    refine wl_op rfl (op_move rfl rfl ?_)
    refine wl_op rfl (op_buildSlice (cs := #[.slice A n c, .slice A2 n2 c2, .slice A3 n3 c3]) (e := 22) rfl (fun w => by kernel_rfl) rfl ?_)
    intro W57 b58 hN59
    have hb60 : W57.heap[b58]? = some (.cells #[.slice A n c, .slice A2 n2 c2, .slice A3 n3 c3] 22 (0, 0)) := hN59.blk
    have hB61 : Below w.heap.size w W57 := (below_new (below_step hB49 hE56) hN59)
    refine wl_op rfl (op_call ent18 rfl (rEffective_spec (rdl3 hb60 (hs.ext (flat_lifts _) hB61) (hs2.ext (flat_lifts _) hB61) (hs3.ext (flat_lifts _) hB61) hc hc2 hc3 hsh.1 hsh.2.1 hsh.2.2) (by omega) (l := [a, b, d])) rfl ?_)
    rintro _ W67 ⟨A162, n163, c164, rfl, hp65, hp66, hE68⟩
    refine wl_op rfl (op_move rfl rfl ?_)
    refine wl_op rfl (op_extract (v := .slice A162 n163 c164) rfl rfl rfl ?_)
    refine wl_op rfl (op_extract (v := .int .i64 (effE [a, b, d])) rfl rfl rfl ?_)
    refine wl_op rfl (op_assign rfl rfl ?_)
    refine wl_op rfl (op_assign rfl rfl ?_)
    refine (wl_done (then_norm ?_))
    refine WC.sub [(0, .slice A n c), (1, .slice A2 n2 c2), (2, .slice A3 n3 c3), (6, .bool false), (7, .slice A130 n131 c132), (8, .int .i64 (overE a b)), (9, .slice A138 n139 c140), (10, .int .i64 (overE a b)), (11, .slice A150 n151 c152), (12, .int .i64 (effE [a, b, d])), (13, .slice A162 n163 c164), (14, .int .i64 (effE [a, b, d]))] ⟨rfl, rfl, rfl, rfl, rfl, rfl, rfl, rfl, rfl, rfl, rfl, rfl, trivial⟩ ?_
    refine wc_seq ?_
    refine wc_region ?_
    refine wl_op rfl (op_move rfl rfl ?_)
    refine wl_op rfl (op_move rfl rfl ?_)
    have hB69 : Below w.heap.size w W67 := (below_step hB61 hE68)
    refine wl_op rfl (op_call ent19 rfl (Same_spec (hs.ext (flat_lifts _) hB69) (hs2.ext (flat_lifts _) hB69) (by omega) (by omega)) rfl ?_)
    rintro _ W70 ⟨rfl, hE71⟩
    refine wl_op rfl (op_move rfl rfl ?_)
    refine wl_op rfl (op_extract (v := .bool (sameR a b)) rfl rfl rfl ?_)
    refine wl_op rfl (op_extract (v := .int .i64 (overE a b)) rfl rfl rfl ?_)
    refine wl_op rfl (op_assign rfl rfl ?_)
    refine wl_op rfl (op_assign rfl rfl ?_)
    refine (wl_done (then_norm ?_))
    refine WC.sub [(0, .slice A n c), (1, .slice A2 n2 c2), (2, .slice A3 n3 c3), (6, .bool false), (7, .slice A130 n131 c132), (8, .int .i64 (overE a b)), (9, .slice A138 n139 c140), (10, .int .i64 (overE a b)), (11, .slice A150 n151 c152), (12, .int .i64 (effE [a, b, d])), (13, .slice A162 n163 c164), (14, .int .i64 (effE [a, b, d])), (15, .bool (sameR a b)), (16, .int .i64 (overE a b))] ⟨rfl, rfl, rfl, rfl, rfl, rfl, rfl, rfl, rfl, rfl, rfl, rfl, rfl, rfl, trivial⟩ ?_
    refine wc_seq ?_
    refine wc_region ?_
    refine wl_op rfl (op_move rfl rfl ?_)
    refine wl_op rfl (op_move rfl rfl ?_)
    have hB72 : Below w.heap.size w W70 := (below_step hB69 hE71)
    refine wl_op rfl (op_call ent20 rfl (rSame_spec (hs.ext (flat_lifts _) hB72) (hs2.ext (flat_lifts _) hB72)) rfl ?_)
    rintro _ W73 ⟨rfl, hE74⟩
    refine wl_op rfl (op_move rfl rfl ?_)
    refine wl_op rfl (op_extract (v := .bool (rSameR a b)) rfl rfl rfl ?_)
    refine wl_op rfl (op_extract (v := .int .i64 (overE a b)) rfl rfl rfl ?_)
    refine wl_op rfl (op_assign rfl rfl ?_)
    refine wl_op rfl (op_assign rfl rfl ?_)
    refine (wl_done (then_norm ?_))
    refine WC.sub [(0, .slice A n c), (1, .slice A2 n2 c2), (2, .slice A3 n3 c3), (6, .bool false), (7, .slice A130 n131 c132), (8, .int .i64 (overE a b)), (9, .slice A138 n139 c140), (10, .int .i64 (overE a b)), (11, .slice A150 n151 c152), (12, .int .i64 (effE [a, b, d])), (13, .slice A162 n163 c164), (14, .int .i64 (effE [a, b, d])), (15, .bool (sameR a b)), (16, .int .i64 (overE a b)), (17, .bool (rSameR a b)), (18, .int .i64 (overE a b))] ⟨rfl, rfl, rfl, rfl, rfl, rfl, rfl, rfl, rfl, rfl, rfl, rfl, rfl, rfl, rfl, rfl, trivial⟩ ?_
    refine wc_seq ?_
    refine wc_seq ?_
    refine wc_text [(0, .slice A n c), (1, .slice A2 n2 c2), (2, .slice A3 n3 c3), (6, .bool false), (7, .slice A130 n131 c132), (8, .int .i64 (overE a b)), (9, .slice A138 n139 c140), (10, .int .i64 (overE a b)), (11, .slice A150 n151 c152), (12, .int .i64 (effE [a, b, d])), (13, .slice A162 n163 c164), (14, .int .i64 (effE [a, b, d])), (15, .bool (sameR a b)), (16, .int .i64 (overE a b)), (17, .bool (rSameR a b)), (18, .int .i64 (overE a b))] ⟨rfl, rfl, rfl, rfl, rfl, rfl, rfl, rfl, rfl, rfl, rfl, rfl, rfl, rfl, rfl, rfl, trivial⟩ [fun v _ => v = .slice A130 n131 c132, fun v _ => v = .slice A138 n139 c140, fun v _ => v = .bool (decide ((overR a b) = (rOverR a b))), fun v _ => v = .bool (!(decide ((overR a b) = (rOverR a b)))), fun v _ => v = .bool (!(decide ((overR a b) = (rOverR a b)))), fun v _ => v = (bif (!(!(decide ((overR a b) = (rOverR a b))))) then (.int .i64 (overE a b)) else undef), fun v _ => v = (bif (!(!(decide ((overR a b) = (rOverR a b))))) then (.int .i64 (overE a b)) else undef), fun v _ => v = (bif (!(!(decide ((overR a b) = (rOverR a b))))) then (.bool (!decide (overE a b = overE a b))) else undef), fun v _ => v = .bool ((!(decide ((overR a b) = (rOverR a b)))) || (!decide (overE a b = overE a b))), fun v _ => v = .bool ((!(decide ((overR a b) = (rOverR a b)))) || (!decide (overE a b = overE a b))), fun v _ => v = (bif (!((!(decide ((overR a b) = (rOverR a b)))) || (!decide (overE a b = overE a b)))) then (.slice A150 n151 c152) else undef), fun v _ => v = (bif (!((!(decide ((overR a b) = (rOverR a b)))) || (!decide (overE a b = overE a b)))) then (.slice A162 n163 c164) else undef), fun v _ => v = (bif (!((!(decide ((overR a b) = (rOverR a b)))) || (!decide (overE a b = overE a b)))) then (.bool (decide ((effR [a, b, d]) = (rEffR [a, b, d])))) else undef), fun v _ => v = (bif (!((!(decide ((overR a b) = (rOverR a b)))) || (!decide (overE a b = overE a b)))) then (.bool (!(decide ((effR [a, b, d]) = (rEffR [a, b, d]))))) else undef), fun v _ => v = .bool (((!(decide ((overR a b) = (rOverR a b)))) || (!decide (overE a b = overE a b))) || (!(decide ((effR [a, b, d]) = (rEffR [a, b, d]))))), fun v _ => v = .bool (((!(decide ((overR a b) = (rOverR a b)))) || (!decide (overE a b = overE a b))) || (!(decide ((effR [a, b, d]) = (rEffR [a, b, d]))))), fun v _ => v = (bif (!(((!(decide ((overR a b) = (rOverR a b)))) || (!decide (overE a b = overE a b))) || (!(decide ((effR [a, b, d]) = (rEffR [a, b, d])))))) then (.int .i64 (effE [a, b, d])) else undef), fun v _ => v = (bif (!(((!(decide ((overR a b) = (rOverR a b)))) || (!decide (overE a b = overE a b))) || (!(decide ((effR [a, b, d]) = (rEffR [a, b, d])))))) then (.int .i64 (effE [a, b, d])) else undef), fun v _ => v = (bif (!(((!(decide ((overR a b) = (rOverR a b)))) || (!decide (overE a b = overE a b))) || (!(decide ((effR [a, b, d]) = (rEffR [a, b, d])))))) then (.bool (!decide (effE [a, b, d] = effE [a, b, d]))) else undef), fun v _ => v = .bool ((((!(decide ((overR a b) = (rOverR a b)))) || (!decide (overE a b = overE a b))) || (!(decide ((effR [a, b, d]) = (rEffR [a, b, d]))))) || (!decide (effE [a, b, d] = effE [a, b, d]))), fun v _ => v = .bool ((((!(decide ((overR a b) = (rOverR a b)))) || (!decide (overE a b = overE a b))) || (!(decide ((effR [a, b, d]) = (rEffR [a, b, d]))))) || (!decide (effE [a, b, d] = effE [a, b, d]))), fun v _ => v = (bif (!((((!(decide ((overR a b) = (rOverR a b)))) || (!decide (overE a b = overE a b))) || (!(decide ((effR [a, b, d]) = (rEffR [a, b, d]))))) || (!decide (effE [a, b, d] = effE [a, b, d])))) then (.bool (sameR a b)) else undef), fun v _ => v = (bif (!((((!(decide ((overR a b) = (rOverR a b)))) || (!decide (overE a b = overE a b))) || (!(decide ((effR [a, b, d]) = (rEffR [a, b, d]))))) || (!decide (effE [a, b, d] = effE [a, b, d])))) then (.bool (rSameR a b)) else undef), fun v _ => v = (bif (!((((!(decide ((overR a b) = (rOverR a b)))) || (!decide (overE a b = overE a b))) || (!(decide ((effR [a, b, d]) = (rEffR [a, b, d]))))) || (!decide (effE [a, b, d] = effE [a, b, d])))) then (.bool (!decide ((sameR a b) = (rSameR a b)))) else undef), fun v _ => v = .bool (((((!(decide ((overR a b) = (rOverR a b)))) || (!decide (overE a b = overE a b))) || (!(decide ((effR [a, b, d]) = (rEffR [a, b, d]))))) || (!decide (effE [a, b, d] = effE [a, b, d]))) || (!decide ((sameR a b) = (rSameR a b)))), fun v _ => v = .bool (((((!(decide ((overR a b) = (rOverR a b)))) || (!decide (overE a b = overE a b))) || (!(decide ((effR [a, b, d]) = (rEffR [a, b, d]))))) || (!decide (effE [a, b, d] = effE [a, b, d]))) || (!decide ((sameR a b) = (rSameR a b)))), fun v _ => v = (bif (!(((((!(decide ((overR a b) = (rOverR a b)))) || (!decide (overE a b = overE a b))) || (!(decide ((effR [a, b, d]) = (rEffR [a, b, d]))))) || (!decide (effE [a, b, d] = effE [a, b, d]))) || (!decide ((sameR a b) = (rSameR a b))))) then (.int .i64 (overE a b)) else undef), fun v _ => v = (bif (!(((((!(decide ((overR a b) = (rOverR a b)))) || (!decide (overE a b = overE a b))) || (!(decide ((effR [a, b, d]) = (rEffR [a, b, d]))))) || (!decide (effE [a, b, d] = effE [a, b, d]))) || (!decide ((sameR a b) = (rSameR a b))))) then (.int .i64 (overE a b)) else undef), fun v _ => v = (bif (!(((((!(decide ((overR a b) = (rOverR a b)))) || (!decide (overE a b = overE a b))) || (!(decide ((effR [a, b, d]) = (rEffR [a, b, d]))))) || (!decide (effE [a, b, d] = effE [a, b, d]))) || (!decide ((sameR a b) = (rSameR a b))))) then (.bool (!decide (overE a b = overE a b))) else undef), fun v _ => v = .bool ((((((!(decide ((overR a b) = (rOverR a b)))) || (!decide (overE a b = overE a b))) || (!(decide ((effR [a, b, d]) = (rEffR [a, b, d]))))) || (!decide (effE [a, b, d] = effE [a, b, d]))) || (!decide ((sameR a b) = (rSameR a b)))) || (!decide (overE a b = overE a b)))] [[], [], [0, 1], [2], [3], [4], [4], [4, 5, 6], [4, 7], [8], [9], [9], [9, 10, 11], [9, 12], [9, 13], [14], [15], [15], [15, 16, 17], [15, 18], [19], [20], [20], [20, 21, 22], [20, 23], [24], [25], [25], [25, 26, 27], [25, 28]] [29] rfl rfl rfl ⟨fun _ _ _ _ h => h, fun _ _ _ _ h => h, fun _ _ _ _ h => h, fun _ _ _ _ h => h, fun _ _ _ _ h => h, fun _ _ _ _ h => h, fun _ _ _ _ h => h, fun _ _ _ _ h => h, fun _ _ _ _ h => h, fun _ _ _ _ h => h, fun _ _ _ _ h => h, fun _ _ _ _ h => h, fun _ _ _ _ h => h, fun _ _ _ _ h => h, fun _ _ _ _ h => h, fun _ _ _ _ h => h, fun _ _ _ _ h => h, fun _ _ _ _ h => h, fun _ _ _ _ h => h, fun _ _ _ _ h => h, fun _ _ _ _ h => h, fun _ _ _ _ h => h, fun _ _ _ _ h => h, fun _ _ _ _ h => h, fun _ _ _ _ h => h, fun _ _ _ _ h => h, fun _ _ _ _ h => h, fun _ _ _ _ h => h, fun _ _ _ _ h => h, fun _ _ _ _ h => h, trivial⟩ ⟨?_, ?_, ?_, ?_, ?_, ?_, ?_, ?_, ?_, ?_, ?_, ?_, ?_, ?_, ?_, ?_, ?_, ?_, ?_, ?_, ?_, ?_, ?_, ?_, ?_, ?_, ?_, ?_, ?_, ?_, trivial⟩ ?_
    · intro W75 hW76
      refine gather_nil ?_
      refine opg_none rfl ?_
      exact op_move rfl rfl ⟨told rfl rfl rfl, (Below.refl _ _)⟩
    · intro W75 hW76
      refine gather_nil ?_
      refine opg_none rfl ?_
      exact op_move rfl rfl ⟨told rfl rfl rfl, (Below.refl _ _)⟩
    · intro W75 hW76
      rintro _ rfl
      rintro _ rfl
      refine gather_nil ?_
      refine opg_none rfl ?_
      have hB81 : Below W35.heap.size W35 W75 := (below_step (below_step (below_step (below_step (below_new (below_step (below_new (below_step (Below.refl _ _) hE44) hN47) hE56) hN59) hE68) hE71) hE74) hW76)
      have hB82 : Below W43.heap.size W43 W75 := (below_step (below_step (below_step (below_step (below_new (below_step (below_new (Below.refl _ _) hN47) hE56) hN59) hE68) hE71) hE74) hW76)
      refine op_call ent12 rfl (same_spec (hp33.ext (flat_lifts _) hB81) (hp41.ext (flat_lifts _) hB82)) rfl ?_
      rintro _ W83 ⟨rfl, hE84⟩
      exact ⟨told rfl rfl rfl, hE84⟩
    · intro W75 hW76
      rintro _ rfl
      refine gather_nil ?_
      refine opg_none rfl ?_
      exact op_not rfl rfl ⟨told rfl rfl rfl, (Below.refl _ _)⟩
    · intro W75 hW76
      rintro _ rfl
      refine gather_nil ?_
      refine opg_none rfl ?_
      exact op_move rfl rfl ⟨told rfl rfl rfl, (Below.refl _ _)⟩
    · intro W75 hW76
      rintro _ rfl
      refine gather_nil ?_
      refine opg_f1 rfl rfl (fun hg85 => ?_) (fun h => by rw [h, cond_false])
      exact op_move rfl rfl ⟨told rfl rfl (by rw [hg85, cond_true]), (Below.refl _ _)⟩
    · intro W75 hW76
      rintro _ rfl
      refine gather_nil ?_
      refine opg_f1 rfl rfl (fun hg86 => ?_) (fun h => by rw [h, cond_false])
      exact op_move rfl rfl ⟨told rfl rfl (by rw [hg86, cond_true]), (Below.refl _ _)⟩
    · intro W75 hW76
      rintro _ rfl
      intro v87 (hv88 : v87 = bif (!(!(decide ((overR a b) = (rOverR a b))))) then (.int .i64 (overE a b)) else undef)
      intro v89 (hv90 : v89 = bif (!(!(decide ((overR a b) = (rOverR a b))))) then (.int .i64 (overE a b)) else undef)
      refine gather_nil ?_
      refine opg_f1 rfl rfl (fun hg91 => ?_) (fun h => by rw [h, cond_false])
      obtain rfl : v87 = .int .i64 (overE a b) := by rw [hv88, hg91, cond_true]
      obtain rfl : v89 = .int .i64 (overE a b) := by rw [hv90, hg91, cond_true]
      exact op_neq rfl rfl rfl ⟨told rfl rfl (by rw [hg91, cond_true]), (Below.refl _ _)⟩
    · intro W75 hW76
      rintro _ rfl
      intro v92 (hv93 : v92 = bif (!(!(decide ((overR a b) = (rOverR a b))))) then (.bool (!decide (overE a b = overE a b))) else undef)
      refine gather_nil ?_
      refine opg_none rfl ?_
      exact op_or rfl rfl rfl (fun h => by rw [hv93, (not_i h), cond_true]) rfl ⟨told rfl rfl rfl, (Below.refl _ _)⟩
    · intro W75 hW76
      rintro _ rfl
      refine gather_nil ?_
      refine opg_none rfl ?_
      exact op_move rfl rfl ⟨told rfl rfl rfl, (Below.refl _ _)⟩
    · intro W75 hW76
      rintro _ rfl
      refine gather_nil ?_
      refine opg_f1 rfl rfl (fun hg94 => ?_) (fun h => by rw [h, cond_false])
      exact op_move rfl rfl ⟨told rfl rfl (by rw [hg94, cond_true]), (Below.refl _ _)⟩
    · intro W75 hW76
      rintro _ rfl
      refine gather_nil ?_
      refine opg_f1 rfl rfl (fun hg95 => ?_) (fun h => by rw [h, cond_false])
      exact op_move rfl rfl ⟨told rfl rfl (by rw [hg95, cond_true]), (Below.refl _ _)⟩
    · intro W75 hW76
      rintro _ rfl
      intro v96 (hv97 : v96 = bif (!((!(decide ((overR a b) = (rOverR a b)))) || (!decide (overE a b = overE a b)))) then (.slice A150 n151 c152) else undef)
      intro v98 (hv99 : v98 = bif (!((!(decide ((overR a b) = (rOverR a b)))) || (!decide (overE a b = overE a b)))) then (.slice A162 n163 c164) else undef)
      refine gather_nil ?_
      refine opg_f1 rfl rfl (fun hg100 => ?_) (fun h => by rw [h, cond_false])
      obtain rfl : v96 = .slice A150 n151 c152 := by rw [hv97, hg100, cond_true]
      obtain rfl : v98 = .slice A162 n163 c164 := by rw [hv99, hg100, cond_true]
      have hB101 : Below W55.heap.size W55 W75 := (below_step (below_step (below_step (below_step (below_new (Below.refl _ _) hN59) hE68) hE71) hE74) hW76)
      have hB102 : Below W67.heap.size W67 W75 := (below_step (below_step (below_step (Below.refl _ _) hE71) hE74) hW76)
      refine op_call ent12 rfl (same_spec (hp53.ext (flat_lifts _) hB101) (hp65.ext (flat_lifts _) hB102)) rfl ?_
      rintro _ W103 ⟨rfl, hE104⟩
      exact ⟨told rfl rfl (by rw [hg100, cond_true]), hE104⟩
    · intro W75 hW76
      rintro _ rfl
      intro v105 (hv106 : v105 = bif (!((!(decide ((overR a b) = (rOverR a b)))) || (!decide (overE a b = overE a b)))) then (.bool (decide ((effR [a, b, d]) = (rEffR [a, b, d])))) else undef)
      refine gather_nil ?_
      refine opg_f1 rfl rfl (fun hg107 => ?_) (fun h => by rw [h, cond_false])
      obtain rfl : v105 = .bool (decide ((effR [a, b, d]) = (rEffR [a, b, d]))) := by rw [hv106, hg107, cond_true]
      exact op_not rfl rfl ⟨told rfl rfl (by rw [hg107, cond_true]), (Below.refl _ _)⟩
    · intro W75 hW76
      rintro _ rfl
      intro v108 (hv109 : v108 = bif (!((!(decide ((overR a b) = (rOverR a b)))) || (!decide (overE a b = overE a b)))) then (.bool (!(decide ((effR [a, b, d]) = (rEffR [a, b, d]))))) else undef)
      refine gather_nil ?_
      refine opg_none rfl ?_
      exact op_or rfl rfl rfl (fun h => by rw [hv109, (not_i h), cond_true]) rfl ⟨told rfl rfl rfl, (Below.refl _ _)⟩
    · intro W75 hW76
      rintro _ rfl
      refine gather_nil ?_
      refine opg_none rfl ?_
      exact op_move rfl rfl ⟨told rfl rfl rfl, (Below.refl _ _)⟩
    · intro W75 hW76
      rintro _ rfl
      refine gather_nil ?_
      refine opg_f1 rfl rfl (fun hg110 => ?_) (fun h => by rw [h, cond_false])
      exact op_move rfl rfl ⟨told rfl rfl (by rw [hg110, cond_true]), (Below.refl _ _)⟩
    · intro W75 hW76
      rintro _ rfl
      refine gather_nil ?_
      refine opg_f1 rfl rfl (fun hg111 => ?_) (fun h => by rw [h, cond_false])
      exact op_move rfl rfl ⟨told rfl rfl (by rw [hg111, cond_true]), (Below.refl _ _)⟩
    · intro W75 hW76
      rintro _ rfl
      intro v112 (hv113 : v112 = bif (!(((!(decide ((overR a b) = (rOverR a b)))) || (!decide (overE a b = overE a b))) || (!(decide ((effR [a, b, d]) = (rEffR [a, b, d])))))) then (.int .i64 (effE [a, b, d])) else undef)
      intro v114 (hv115 : v114 = bif (!(((!(decide ((overR a b) = (rOverR a b)))) || (!decide (overE a b = overE a b))) || (!(decide ((effR [a, b, d]) = (rEffR [a, b, d])))))) then (.int .i64 (effE [a, b, d])) else undef)
      refine gather_nil ?_
      refine opg_f1 rfl rfl (fun hg116 => ?_) (fun h => by rw [h, cond_false])
      obtain rfl : v112 = .int .i64 (effE [a, b, d]) := by rw [hv113, hg116, cond_true]
      obtain rfl : v114 = .int .i64 (effE [a, b, d]) := by rw [hv115, hg116, cond_true]
      exact op_neq rfl rfl rfl ⟨told rfl rfl (by rw [hg116, cond_true]), (Below.refl _ _)⟩
    · intro W75 hW76
      rintro _ rfl
      intro v117 (hv118 : v117 = bif (!(((!(decide ((overR a b) = (rOverR a b)))) || (!decide (overE a b = overE a b))) || (!(decide ((effR [a, b, d]) = (rEffR [a, b, d])))))) then (.bool (!decide (effE [a, b, d] = effE [a, b, d]))) else undef)
      refine gather_nil ?_
      refine opg_none rfl ?_
      exact op_or rfl rfl rfl (fun h => by rw [hv118, (not_i h), cond_true]) rfl ⟨told rfl rfl rfl, (Below.refl _ _)⟩
    · intro W75 hW76
      rintro _ rfl
      refine gather_nil ?_
      refine opg_none rfl ?_
      exact op_move rfl rfl ⟨told rfl rfl rfl, (Below.refl _ _)⟩
    · intro W75 hW76
      rintro _ rfl
      refine gather_nil ?_
      refine opg_f1 rfl rfl (fun hg119 => ?_) (fun h => by rw [h, cond_false])
      exact op_move rfl rfl ⟨told rfl rfl (by rw [hg119, cond_true]), (Below.refl _ _)⟩
    · intro W75 hW76
      rintro _ rfl
      refine gather_nil ?_
      refine opg_f1 rfl rfl (fun hg120 => ?_) (fun h => by rw [h, cond_false])
      exact op_move rfl rfl ⟨told rfl rfl (by rw [hg120, cond_true]), (Below.refl _ _)⟩
    · intro W75 hW76
      rintro _ rfl
      intro v121 (hv122 : v121 = bif (!((((!(decide ((overR a b) = (rOverR a b)))) || (!decide (overE a b = overE a b))) || (!(decide ((effR [a, b, d]) = (rEffR [a, b, d]))))) || (!decide (effE [a, b, d] = effE [a, b, d])))) then (.bool (sameR a b)) else undef)
      intro v123 (hv124 : v123 = bif (!((((!(decide ((overR a b) = (rOverR a b)))) || (!decide (overE a b = overE a b))) || (!(decide ((effR [a, b, d]) = (rEffR [a, b, d]))))) || (!decide (effE [a, b, d] = effE [a, b, d])))) then (.bool (rSameR a b)) else undef)
      refine gather_nil ?_
      refine opg_f1 rfl rfl (fun hg125 => ?_) (fun h => by rw [h, cond_false])
      obtain rfl : v121 = .bool (sameR a b) := by rw [hv122, hg125, cond_true]
      obtain rfl : v123 = .bool (rSameR a b) := by rw [hv124, hg125, cond_true]
      exact op_neqb und4 rfl rfl rfl ⟨told rfl rfl (by rw [hg125, cond_true]), (Below.refl _ _)⟩
    · intro W75 hW76
      rintro _ rfl
      intro v126 (hv127 : v126 = bif (!((((!(decide ((overR a b) = (rOverR a b)))) || (!decide (overE a b = overE a b))) || (!(decide ((effR [a, b, d]) = (rEffR [a, b, d]))))) || (!decide (effE [a, b, d] = effE [a, b, d])))) then (.bool (!decide ((sameR a b) = (rSameR a b)))) else undef)
      refine gather_nil ?_
      refine opg_none rfl ?_
      exact op_or rfl rfl rfl (fun h => by rw [hv127, (not_i h), cond_true]) rfl ⟨told rfl rfl rfl, (Below.refl _ _)⟩
    · intro W75 hW76
      rintro _ rfl
      refine gather_nil ?_
      refine opg_none rfl ?_
      exact op_move rfl rfl ⟨told rfl rfl rfl, (Below.refl _ _)⟩
    · intro W75 hW76
      rintro _ rfl
      refine gather_nil ?_
      refine opg_f1 rfl rfl (fun hg128 => ?_) (fun h => by rw [h, cond_false])
      exact op_move rfl rfl ⟨told rfl rfl (by rw [hg128, cond_true]), (Below.refl _ _)⟩
    · intro W75 hW76
      rintro _ rfl
      refine gather_nil ?_
      refine opg_f1 rfl rfl (fun hg129 => ?_) (fun h => by rw [h, cond_false])
      exact op_move rfl rfl ⟨told rfl rfl (by rw [hg129, cond_true]), (Below.refl _ _)⟩
    · intro W75 hW76
      rintro _ rfl
      intro v130 (hv131 : v130 = bif (!(((((!(decide ((overR a b) = (rOverR a b)))) || (!decide (overE a b = overE a b))) || (!(decide ((effR [a, b, d]) = (rEffR [a, b, d]))))) || (!decide (effE [a, b, d] = effE [a, b, d]))) || (!decide ((sameR a b) = (rSameR a b))))) then (.int .i64 (overE a b)) else undef)
      intro v132 (hv133 : v132 = bif (!(((((!(decide ((overR a b) = (rOverR a b)))) || (!decide (overE a b = overE a b))) || (!(decide ((effR [a, b, d]) = (rEffR [a, b, d]))))) || (!decide (effE [a, b, d] = effE [a, b, d]))) || (!decide ((sameR a b) = (rSameR a b))))) then (.int .i64 (overE a b)) else undef)
      refine gather_nil ?_
      refine opg_f1 rfl rfl (fun hg134 => ?_) (fun h => by rw [h, cond_false])
      obtain rfl : v130 = .int .i64 (overE a b) := by rw [hv131, hg134, cond_true]
      obtain rfl : v132 = .int .i64 (overE a b) := by rw [hv133, hg134, cond_true]
      exact op_neq rfl rfl rfl ⟨told rfl rfl (by rw [hg134, cond_true]), (Below.refl _ _)⟩
    · intro W75 hW76
      rintro _ rfl
      intro v135 (hv136 : v135 = bif (!(((((!(decide ((overR a b) = (rOverR a b)))) || (!decide (overE a b = overE a b))) || (!(decide ((effR [a, b, d]) = (rEffR [a, b, d]))))) || (!decide (effE [a, b, d] = effE [a, b, d]))) || (!decide ((sameR a b) = (rSameR a b))))) then (.bool (!decide (overE a b = overE a b))) else undef)
      refine gather_nil ?_
      refine opg_none rfl ?_
      exact op_or rfl rfl rfl (fun h => by rw [hv136, (not_i h), cond_true]) rfl ⟨told rfl rfl rfl, (Below.refl _ _)⟩
    intro W137 hW138
    rintro _ rfl
    refine gather_nil ?_
    refine (then_norm ?_)
    refine WC.sub [(0, .slice A n c), (1, .slice A2 n2 c2), (2, .slice A3 n3 c3), (6, .bool false), (7, .slice A130 n131 c132), (11, .slice A150 n151 c152), (12, .int .i64 (effE [a, b, d])), (15, .bool (sameR a b)), (105, .bool ((((((!(decide ((overR a b) = (rOverR a b)))) || (!decide (overE a b = overE a b))) || (!(decide ((effR [a, b, d]) = (rEffR [a, b, d]))))) || (!decide (effE [a, b, d] = effE [a, b, d]))) || (!decide ((sameR a b) = (rSameR a b)))) || (!decide (overE a b = overE a b))))] ⟨rfl, rfl, rfl, rfl, rfl, rfl, rfl, rfl, rfl, trivial⟩ ?_
    refine wc_cond (b := (((((!(decide ((overR a b) = (rOverR a b)))) || (!decide (overE a b = overE a b))) || (!(decide ((effR [a, b, d]) = (rEffR [a, b, d]))))) || (!decide (effE [a, b, d] = effE [a, b, d]))) || (!decide ((sameR a b) = (rSameR a b)))) || (!decide (overE a b = overE a b))) rfl (fun hc139 => ?_) (fun hc139 => ?_)
    · exfalso
      rw [over_cmp a b d] at hc139
      cases hc139
    · refine wc_skip ?_
      refine (then_norm ?_)
      refine wc_seq ?_
      refine wc_seq ?_
      refine wc_region ?_
      refine wl_op rfl (op_move rfl rfl ?_)
      refine wl_op rfl (op_neq rfl rfl rfl ?_)
      refine (wl_done (then_norm ?_))
      refine wc_cond (b := !decide (effE [a, b, d] = 0)) rfl (fun hc140 => ?_) (fun hc140 => ?_)
      · have hc140r := hc140
        have hc140 := of_decide_eq_false (not_t hc140)
        refine wc_seq ?_
        refine wc_region ?_
        refine wl_op rfl (op_call ent7 rfl (awake_spec) rfl ?_)
        rintro _ W141 ⟨rfl, hE142⟩
        refine wl_op rfl (op_assign rfl rfl ?_)
        refine (wl_done (then_norm ?_))
        refine wc_ret ?_
        refine (then_ret ?_)
        have hB143 : Below w.heap.size w W141 := (below_step (below_step (below_step hB72 hE74) hW138) hE142)
        refine ⟨[_], ⟨rfl, trivial⟩, ⟨?_, hB143⟩⟩
        exact rfl
      · have hc140r := hc140
        have hc140 := of_decide_eq_true (not_f hc140)
        obtain ⟨hva, hvb, hvd⟩ := effE_0 hc140
        refine wc_skip ?_
        refine (then_norm ?_)
        refine wc_seq ?_
        refine wc_region ?_
        refine wl_op rfl (op_move rfl rfl ?_)
        refine wl_op rfl (op_move rfl rfl ?_)
        have hB144 : Below W35.heap.size W35 W137 := (below_step (below_step (below_step (below_step (below_new (below_step (below_new (below_step (Below.refl _ _) hE44) hN47) hE56) hN59) hE68) hE71) hE74) hW138)
        have hB145 : Below w.heap.size w W137 := (below_step (below_step hB72 hE74) hW138)
        refine wl_op rfl (op_call ent15 rfl (Over_spec (hp33.ext (flat_lifts _) hB144) (hs3.ext (flat_lifts _) hB145) (by omega) (by omega) (by omega) (by omega)) rfl ?_)
        rintro _ W151 ⟨A1146, n1147, c1148, rfl, hp149, hp150, hE152⟩
        have := hp149.len
        refine wl_op rfl (op_move rfl rfl ?_)
        refine wl_op rfl (op_extract (v := .slice A1146 n1147 c1148) rfl rfl rfl ?_)
        refine wl_op rfl (op_extract (v := .int .i64 (overE (overR a b) d)) rfl rfl rfl ?_)
        refine wl_op rfl (op_assign rfl rfl ?_)
        refine wl_op rfl (op_assign rfl rfl ?_)
        refine (wl_done (then_norm ?_))
        refine WC.sub [(0, .slice A n c), (1, .slice A2 n2 c2), (2, .slice A3 n3 c3), (6, .bool false), (11, .slice A150 n151 c152), (15, .bool (sameR a b)), (19, .slice A1146 n1147 c1148)] ⟨rfl, rfl, rfl, rfl, rfl, rfl, rfl, trivial⟩ ?_
        refine wc_seq ?_
        refine wc_region ?_
        refine wl_op rfl (op_move rfl rfl ?_)
        refine wl_op rfl (op_move rfl rfl ?_)
        have hB153 : Below w.heap.size w W151 := (below_step hB145 hE152)
        refine wl_op rfl (op_call ent15 rfl (Over_spec (hs2.ext (flat_lifts _) hB153) (hs3.ext (flat_lifts _) hB153) (by omega) (by omega) (by omega) (by omega)) rfl ?_)
        rintro _ W159 ⟨A1154, n1155, c1156, rfl, hp157, hp158, hE160⟩
        have := hp157.len
        refine wl_op rfl (op_move rfl rfl ?_)
        refine wl_op rfl (op_extract (v := .slice A1154 n1155 c1156) rfl rfl rfl ?_)
        refine wl_op rfl (op_extract (v := .int .i64 (overE b d)) rfl rfl rfl ?_)
        refine wl_op rfl (op_assign rfl rfl ?_)
        refine wl_op rfl (op_assign rfl rfl ?_)
        refine (wl_done (then_norm ?_))
        refine WC.sub [(0, .slice A n c), (1, .slice A2 n2 c2), (6, .bool false), (11, .slice A150 n151 c152), (15, .bool (sameR a b)), (19, .slice A1146 n1147 c1148), (21, .slice A1154 n1155 c1156)] ⟨rfl, rfl, rfl, rfl, rfl, rfl, rfl, trivial⟩ ?_
        refine wc_seq ?_
        refine wc_region ?_
        refine wl_op rfl (op_move rfl rfl ?_)
        refine wl_op rfl (op_move rfl rfl ?_)
        have hB161 : Below w.heap.size w W159 := (below_step hB153 hE160)
        refine wl_op rfl (op_call ent15 rfl (Over_spec (hs.ext (flat_lifts _) hB161) hp157 (by omega) (by omega) (by omega) (by omega)) rfl ?_)
        rintro _ W167 ⟨A1162, n1163, c1164, rfl, hp165, hp166, hE168⟩
        have := hp165.len
        refine wl_op rfl (op_move rfl rfl ?_)
        refine wl_op rfl (op_extract (v := .slice A1162 n1163 c1164) rfl rfl rfl ?_)
        refine wl_op rfl (op_extract (v := .int .i64 (overE a (overR b d))) rfl rfl rfl ?_)
        refine wl_op rfl (op_assign rfl rfl ?_)
        refine (wl_done (then_norm ?_))
        refine WC.sub [(0, .slice A n c), (1, .slice A2 n2 c2), (6, .bool false), (11, .slice A150 n151 c152), (15, .bool (sameR a b)), (19, .slice A1146 n1147 c1148), (21, .slice A1162 n1163 c1164)] ⟨rfl, rfl, rfl, rfl, rfl, rfl, rfl, trivial⟩ ?_
        refine wc_seq ?_
        refine wc_region ?_
        refine wl_op rfl (op_move rfl rfl ?_)
        refine wl_op rfl (op_move rfl rfl ?_)
        have hB169 : Below w.heap.size w W167 := (below_step hB161 hE168)
        refine wl_op rfl (op_call ent15 rfl (Over_spec (hs.ext (flat_lifts _) hB169) (hs.ext (flat_lifts _) hB169) (by omega) (by omega) (by omega) (by omega)) rfl ?_)
        rintro _ W175 ⟨A1170, n1171, c1172, rfl, hp173, hp174, hE176⟩
        have := hp173.len
        refine wl_op rfl (op_move rfl rfl ?_)
        refine wl_op rfl (op_extract (v := .slice A1170 n1171 c1172) rfl rfl rfl ?_)
        refine wl_op rfl (op_extract (v := .int .i64 (overE a a)) rfl rfl rfl ?_)
        refine wl_op rfl (op_assign rfl rfl ?_)
        refine wl_op rfl (op_assign rfl rfl ?_)
        refine (wl_done (then_norm ?_))
        refine WC.sub [(0, .slice A n c), (1, .slice A2 n2 c2), (6, .bool false), (11, .slice A150 n151 c152), (15, .bool (sameR a b)), (19, .slice A1146 n1147 c1148), (21, .slice A1162 n1163 c1164), (23, .slice A1170 n1171 c1172)] ⟨rfl, rfl, rfl, rfl, rfl, rfl, rfl, rfl, trivial⟩ ?_
        refine wc_seq ?_
        refine wc_region ?_
        refine wl_op rfl (op_move rfl rfl ?_)
        have hB177 : Below w.heap.size w W175 := (below_step hB169 hE176)
        refine wl_op rfl (op_call ent21 rfl (Plain_spec (hs.ext (flat_lifts _) hB177) (by omega)) rfl ?_)
        rintro _ W182 ⟨A1178, n1179, c1180, rfl, hp181, hE183⟩
        refine wl_op rfl (op_move rfl rfl ?_)
        refine wl_op rfl (op_extract (v := .slice A1178 n1179 c1180) rfl rfl rfl ?_)
        refine wl_op rfl (op_extract (v := .int .i64 (chosenE a)) rfl rfl rfl ?_)
        refine wl_op rfl (op_assign rfl rfl ?_)
        refine wl_op rfl (op_assign rfl rfl ?_)
        refine (wl_done (then_norm ?_))
        refine WC.sub [(0, .slice A n c), (1, .slice A2 n2 c2), (6, .bool false), (11, .slice A150 n151 c152), (15, .bool (sameR a b)), (19, .slice A1146 n1147 c1148), (21, .slice A1162 n1163 c1164), (23, .slice A1170 n1171 c1172), (25, .slice A1178 n1179 c1180)] ⟨rfl, rfl, rfl, rfl, rfl, rfl, rfl, rfl, rfl, trivial⟩ ?_
        refine wc_seq ?_
        refine wc_region ?_
        refine wl_op rfl (op_move rfl rfl ?_)
        have hB184 : Below w.heap.size w W182 := (below_step hB177 hE183)
        refine wl_op rfl (op_call ent21 rfl (Plain_spec (hs2.ext (flat_lifts _) hB184) (by omega)) rfl ?_)
        rintro _ W189 ⟨A1185, n1186, c1187, rfl, hp188, hE190⟩
        refine wl_op rfl (op_move rfl rfl ?_)
        refine wl_op rfl (op_extract (v := .slice A1185 n1186 c1187) rfl rfl rfl ?_)
        refine wl_op rfl (op_extract (v := .int .i64 (chosenE b)) rfl rfl rfl ?_)
        refine wl_op rfl (op_assign rfl rfl ?_)
        refine wl_op rfl (op_assign rfl rfl ?_)
        refine (wl_done (then_norm ?_))
        refine WC.sub [(0, .slice A n c), (6, .bool false), (11, .slice A150 n151 c152), (15, .bool (sameR a b)), (19, .slice A1146 n1147 c1148), (21, .slice A1162 n1163 c1164), (23, .slice A1170 n1171 c1172), (25, .slice A1178 n1179 c1180), (27, .slice A1185 n1186 c1187)] ⟨rfl, rfl, rfl, rfl, rfl, rfl, rfl, rfl, rfl, trivial⟩ ?_
        refine wc_seq ?_
        refine wc_text [(0, .slice A n c), (11, .slice A150 n151 c152), (15, .bool (sameR a b)), (19, .slice A1146 n1147 c1148), (21, .slice A1162 n1163 c1164), (23, .slice A1170 n1171 c1172), (25, .slice A1178 n1179 c1180), (27, .slice A1185 n1186 c1187)] ⟨rfl, rfl, rfl, rfl, rfl, rfl, rfl, rfl, trivial⟩ [fun v _ => v = .slice A1146 n1147 c1148, fun v _ => v = .slice A1162 n1163 c1164, fun v _ => v = .bool (decide ((overR (overR a b) d) = (overR a (overR b d)))), fun v _ => v = .bool (decide ((overR (overR a b) d) = (overR a (overR b d)))), fun v _ => v = (bif (decide ((overR (overR a b) d) = (overR a (overR b d)))) then (.slice A1146 n1147 c1148) else undef), fun v _ => v = (bif (decide ((overR (overR a b) d) = (overR a (overR b d)))) then (.slice A150 n151 c152) else undef), fun v _ => v = (bif (decide ((overR (overR a b) d) = (overR a (overR b d)))) then (.bool (decide ((overR (overR a b) d) = (effR [a, b, d])))) else undef), fun v _ => v = .bool ((decide ((overR (overR a b) d) = (overR a (overR b d)))) && (decide ((overR (overR a b) d) = (effR [a, b, d])))), fun v _ => v = .bool ((decide ((overR (overR a b) d) = (overR a (overR b d)))) && (decide ((overR (overR a b) d) = (effR [a, b, d])))), fun v _ => v = (bif ((decide ((overR (overR a b) d) = (overR a (overR b d)))) && (decide ((overR (overR a b) d) = (effR [a, b, d])))) then (.slice A1170 n1171 c1172) else undef), fun v _ => v = (bif ((decide ((overR (overR a b) d) = (overR a (overR b d)))) && (decide ((overR (overR a b) d) = (effR [a, b, d])))) then (.slice A n c) else undef), fun v _ => v = (bif ((decide ((overR (overR a b) d) = (overR a (overR b d)))) && (decide ((overR (overR a b) d) = (effR [a, b, d])))) then (.bool (decide ((overR a a) = a))) else undef), fun v _ => v = .bool (((decide ((overR (overR a b) d) = (overR a (overR b d)))) && (decide ((overR (overR a b) d) = (effR [a, b, d])))) && (decide ((overR a a) = a))), fun v _ => v = .bool (((decide ((overR (overR a b) d) = (overR a (overR b d)))) && (decide ((overR (overR a b) d) = (effR [a, b, d])))) && (decide ((overR a a) = a))), fun v _ => v = (bif (((decide ((overR (overR a b) d) = (overR a (overR b d)))) && (decide ((overR (overR a b) d) = (effR [a, b, d])))) && (decide ((overR a a) = a))) then (.bool (sameR a b)) else undef), fun v _ => v = (bif (((decide ((overR (overR a b) d) = (overR a (overR b d)))) && (decide ((overR (overR a b) d) = (effR [a, b, d])))) && (decide ((overR a a) = a))) then (.slice A1178 n1179 c1180) else undef), fun v _ => v = (bif (((decide ((overR (overR a b) d) = (overR a (overR b d)))) && (decide ((overR (overR a b) d) = (effR [a, b, d])))) && (decide ((overR a a) = a))) then (.slice A1185 n1186 c1187) else undef), fun v _ => v = (bif (((decide ((overR (overR a b) d) = (overR a (overR b d)))) && (decide ((overR (overR a b) d) = (effR [a, b, d])))) && (decide ((overR a a) = a))) then (.bool (decide ((chosenL a keepPlain) = (chosenL b keepPlain)))) else undef), fun v _ => v = (bif (((decide ((overR (overR a b) d) = (overR a (overR b d)))) && (decide ((overR (overR a b) d) = (effR [a, b, d])))) && (decide ((overR a a) = a))) then (.bool (decide ((sameR a b) = (decide ((chosenL a keepPlain) = (chosenL b keepPlain)))))) else undef), fun v _ => v = .bool ((((decide ((overR (overR a b) d) = (overR a (overR b d)))) && (decide ((overR (overR a b) d) = (effR [a, b, d])))) && (decide ((overR a a) = a))) && (decide ((sameR a b) = (decide ((chosenL a keepPlain) = (chosenL b keepPlain)))))), fun v _ => v = .bool ((((decide ((overR (overR a b) d) = (overR a (overR b d)))) && (decide ((overR (overR a b) d) = (effR [a, b, d])))) && (decide ((overR a a) = a))) && (decide ((sameR a b) = (decide ((chosenL a keepPlain) = (chosenL b keepPlain)))))), fun v _ => v = (bif ((((decide ((overR (overR a b) d) = (overR a (overR b d)))) && (decide ((overR (overR a b) d) = (effR [a, b, d])))) && (decide ((overR a a) = a))) && (decide ((sameR a b) = (decide ((chosenL a keepPlain) = (chosenL b keepPlain)))))) then (.bool true) else undef), fun v _ => v = .bool (((((decide ((overR (overR a b) d) = (overR a (overR b d)))) && (decide ((overR (overR a b) d) = (effR [a, b, d])))) && (decide ((overR a a) = a))) && (decide ((sameR a b) = (decide ((chosenL a keepPlain) = (chosenL b keepPlain)))))) && true), fun v _ => v = .bool (((((decide ((overR (overR a b) d) = (overR a (overR b d)))) && (decide ((overR (overR a b) d) = (effR [a, b, d])))) && (decide ((overR a a) = a))) && (decide ((sameR a b) = (decide ((chosenL a keepPlain) = (chosenL b keepPlain)))))) && true)] [[], [], [0, 1], [2], [3], [3], [3, 4, 5], [3, 6], [7], [8], [8], [8, 9, 10], [8, 11], [12], [13], [13], [13], [13, 15, 16], [13, 14, 17], [13, 18], [19], [20], [20, 21], [22]] [23] rfl rfl rfl ⟨fun _ _ _ _ h => h, fun _ _ _ _ h => h, fun _ _ _ _ h => h, fun _ _ _ _ h => h, fun _ _ _ _ h => h, fun _ _ _ _ h => h, fun _ _ _ _ h => h, fun _ _ _ _ h => h, fun _ _ _ _ h => h, fun _ _ _ _ h => h, fun _ _ _ _ h => h, fun _ _ _ _ h => h, fun _ _ _ _ h => h, fun _ _ _ _ h => h, fun _ _ _ _ h => h, fun _ _ _ _ h => h, fun _ _ _ _ h => h, fun _ _ _ _ h => h, fun _ _ _ _ h => h, fun _ _ _ _ h => h, fun _ _ _ _ h => h, fun _ _ _ _ h => h, fun _ _ _ _ h => h, fun _ _ _ _ h => h, trivial⟩ ⟨?_, ?_, ?_, ?_, ?_, ?_, ?_, ?_, ?_, ?_, ?_, ?_, ?_, ?_, ?_, ?_, ?_, ?_, ?_, ?_, ?_, ?_, ?_, ?_, trivial⟩ ?_
        · intro W191 hW192
          refine gather_nil ?_
          refine opg_none rfl ?_
          exact op_move rfl rfl ⟨told rfl rfl rfl, (Below.refl _ _)⟩
        · intro W191 hW192
          refine gather_nil ?_
          refine opg_none rfl ?_
          exact op_move rfl rfl ⟨told rfl rfl rfl, (Below.refl _ _)⟩
        · intro W191 hW192
          rintro _ rfl
          rintro _ rfl
          refine gather_nil ?_
          refine opg_none rfl ?_
          have hB201 : Below W151.heap.size W151 W191 := (below_step (below_step (below_step (below_step (below_step (below_step (Below.refl _ _) hE160) hE168) hE176) hE183) hE190) hW192)
          have hB202 : Below W167.heap.size W167 W191 := (below_step (below_step (below_step (below_step (Below.refl _ _) hE176) hE183) hE190) hW192)
          refine op_call ent12 rfl (same_spec (hp149.ext (flat_lifts _) hB201) (hp165.ext (flat_lifts _) hB202)) rfl ?_
          rintro _ W203 ⟨rfl, hE204⟩
          exact ⟨told rfl rfl rfl, hE204⟩
        · intro W191 hW192
          rintro _ rfl
          refine gather_nil ?_
          refine opg_none rfl ?_
          exact op_move rfl rfl ⟨told rfl rfl rfl, (Below.refl _ _)⟩
        · intro W191 hW192
          rintro _ rfl
          refine gather_nil ?_
          refine opg_t1 rfl rfl (fun hg205 => ?_) (fun h => by rw [h, cond_false])
          exact op_move rfl rfl ⟨told rfl rfl (by rw [hg205, cond_true]), (Below.refl _ _)⟩
        · intro W191 hW192
          rintro _ rfl
          refine gather_nil ?_
          refine opg_t1 rfl rfl (fun hg206 => ?_) (fun h => by rw [h, cond_false])
          exact op_move rfl rfl ⟨told rfl rfl (by rw [hg206, cond_true]), (Below.refl _ _)⟩
        · intro W191 hW192
          rintro _ rfl
          intro v207 (hv208 : v207 = bif (decide ((overR (overR a b) d) = (overR a (overR b d)))) then (.slice A1146 n1147 c1148) else undef)
          intro v209 (hv210 : v209 = bif (decide ((overR (overR a b) d) = (overR a (overR b d)))) then (.slice A150 n151 c152) else undef)
          refine gather_nil ?_
          refine opg_t1 rfl rfl (fun hg211 => ?_) (fun h => by rw [h, cond_false])
          have hd212 := of_decide_eq_true hg211
          obtain rfl : v207 = .slice A1146 n1147 c1148 := by rw [hv208, hg211, cond_true]
          obtain rfl : v209 = .slice A150 n151 c152 := by rw [hv210, hg211, cond_true]
          have hB213 : Below W151.heap.size W151 W191 := (below_step (below_step (below_step (below_step (below_step (below_step (Below.refl _ _) hE160) hE168) hE176) hE183) hE190) hW192)
          have hB214 : Below W55.heap.size W55 W191 := (below_step (below_step (below_step (below_step (below_step (below_step (below_step (below_step (below_step (below_step (below_step (below_new (Below.refl _ _) hN59) hE68) hE71) hE74) hW138) hE152) hE160) hE168) hE176) hE183) hE190) hW192)
          refine op_call ent12 rfl (same_spec (hp149.ext (flat_lifts _) hB213) (hp53.ext (flat_lifts _) hB214)) rfl ?_
          rintro _ W215 ⟨rfl, hE216⟩
          exact ⟨told rfl rfl (by rw [hg211, cond_true]), hE216⟩
        · intro W191 hW192
          rintro _ rfl
          intro v217 (hv218 : v217 = bif (decide ((overR (overR a b) d) = (overR a (overR b d)))) then (.bool (decide ((overR (overR a b) d) = (effR [a, b, d])))) else undef)
          refine gather_nil ?_
          refine opg_none rfl ?_
          exact op_and rfl rfl rfl (fun h => by rw [hv218, h, cond_true]) rfl ⟨told rfl rfl rfl, (Below.refl _ _)⟩
        · intro W191 hW192
          rintro _ rfl
          refine gather_nil ?_
          refine opg_none rfl ?_
          exact op_move rfl rfl ⟨told rfl rfl rfl, (Below.refl _ _)⟩
        · intro W191 hW192
          rintro _ rfl
          refine gather_nil ?_
          refine opg_t1 rfl rfl (fun hg219 => ?_) (fun h => by rw [h, cond_false])
          exact op_move rfl rfl ⟨told rfl rfl (by rw [hg219, cond_true]), (Below.refl _ _)⟩
        · intro W191 hW192
          rintro _ rfl
          refine gather_nil ?_
          refine opg_t1 rfl rfl (fun hg220 => ?_) (fun h => by rw [h, cond_false])
          exact op_move rfl rfl ⟨told rfl rfl (by rw [hg220, cond_true]), (Below.refl _ _)⟩
        · intro W191 hW192
          rintro _ rfl
          intro v221 (hv222 : v221 = bif ((decide ((overR (overR a b) d) = (overR a (overR b d)))) && (decide ((overR (overR a b) d) = (effR [a, b, d])))) then (.slice A1170 n1171 c1172) else undef)
          intro v223 (hv224 : v223 = bif ((decide ((overR (overR a b) d) = (overR a (overR b d)))) && (decide ((overR (overR a b) d) = (effR [a, b, d])))) then (.slice A n c) else undef)
          refine gather_nil ?_
          refine opg_t1 rfl rfl (fun hg225 => ?_) (fun h => by rw [h, cond_false])
          obtain rfl : v221 = .slice A1170 n1171 c1172 := by rw [hv222, hg225, cond_true]
          obtain rfl : v223 = .slice A n c := by rw [hv224, hg225, cond_true]
          have hB226 : Below W175.heap.size W175 W191 := (below_step (below_step (below_step (Below.refl _ _) hE183) hE190) hW192)
          have hB227 : Below w.heap.size w W191 := (below_step (below_step hB184 hE190) hW192)
          refine op_call ent12 rfl (same_spec (hp173.ext (flat_lifts _) hB226) (hs.ext (flat_lifts _) hB227)) rfl ?_
          rintro _ W228 ⟨rfl, hE229⟩
          exact ⟨told rfl rfl (by rw [hg225, cond_true]), hE229⟩
        · intro W191 hW192
          rintro _ rfl
          intro v230 (hv231 : v230 = bif ((decide ((overR (overR a b) d) = (overR a (overR b d)))) && (decide ((overR (overR a b) d) = (effR [a, b, d])))) then (.bool (decide ((overR a a) = a))) else undef)
          refine gather_nil ?_
          refine opg_none rfl ?_
          exact op_and rfl rfl rfl (fun h => by rw [hv231, h, cond_true]) rfl ⟨told rfl rfl rfl, (Below.refl _ _)⟩
        · intro W191 hW192
          rintro _ rfl
          refine gather_nil ?_
          refine opg_none rfl ?_
          exact op_move rfl rfl ⟨told rfl rfl rfl, (Below.refl _ _)⟩
        · intro W191 hW192
          rintro _ rfl
          refine gather_nil ?_
          refine opg_t1 rfl rfl (fun hg232 => ?_) (fun h => by rw [h, cond_false])
          exact op_move rfl rfl ⟨told rfl rfl (by rw [hg232, cond_true]), (Below.refl _ _)⟩
        · intro W191 hW192
          rintro _ rfl
          refine gather_nil ?_
          refine opg_t1 rfl rfl (fun hg233 => ?_) (fun h => by rw [h, cond_false])
          exact op_move rfl rfl ⟨told rfl rfl (by rw [hg233, cond_true]), (Below.refl _ _)⟩
        · intro W191 hW192
          rintro _ rfl
          refine gather_nil ?_
          refine opg_t1 rfl rfl (fun hg234 => ?_) (fun h => by rw [h, cond_false])
          exact op_move rfl rfl ⟨told rfl rfl (by rw [hg234, cond_true]), (Below.refl _ _)⟩
        · intro W191 hW192
          rintro _ rfl
          intro v235 (hv236 : v235 = bif (((decide ((overR (overR a b) d) = (overR a (overR b d)))) && (decide ((overR (overR a b) d) = (effR [a, b, d])))) && (decide ((overR a a) = a))) then (.slice A1178 n1179 c1180) else undef)
          intro v237 (hv238 : v237 = bif (((decide ((overR (overR a b) d) = (overR a (overR b d)))) && (decide ((overR (overR a b) d) = (effR [a, b, d])))) && (decide ((overR a a) = a))) then (.slice A1185 n1186 c1187) else undef)
          refine gather_nil ?_
          refine opg_t1 rfl rfl (fun hg239 => ?_) (fun h => by rw [h, cond_false])
          obtain rfl : v235 = .slice A1178 n1179 c1180 := by rw [hv236, hg239, cond_true]
          obtain rfl : v237 = .slice A1185 n1186 c1187 := by rw [hv238, hg239, cond_true]
          have hB240 : Below W182.heap.size W182 W191 := (below_step (below_step (Below.refl _ _) hE190) hW192)
          have hB241 : Below W189.heap.size W189 W191 := (below_step (Below.refl _ _) hW192)
          refine op_call ent12 rfl (same_spec (hp181.ext (flat_lifts _) hB240) (hp188.ext (flat_lifts _) hB241)) rfl ?_
          rintro _ W242 ⟨rfl, hE243⟩
          exact ⟨told rfl rfl (by rw [hg239, cond_true]), hE243⟩
        · intro W191 hW192
          rintro _ rfl
          intro v244 (hv245 : v244 = bif (((decide ((overR (overR a b) d) = (overR a (overR b d)))) && (decide ((overR (overR a b) d) = (effR [a, b, d])))) && (decide ((overR a a) = a))) then (.bool (sameR a b)) else undef)
          intro v246 (hv247 : v246 = bif (((decide ((overR (overR a b) d) = (overR a (overR b d)))) && (decide ((overR (overR a b) d) = (effR [a, b, d])))) && (decide ((overR a a) = a))) then (.bool (decide ((chosenL a keepPlain) = (chosenL b keepPlain)))) else undef)
          refine gather_nil ?_
          refine opg_t1 rfl rfl (fun hg248 => ?_) (fun h => by rw [h, cond_false])
          obtain rfl : v244 = .bool (sameR a b) := by rw [hv245, hg248, cond_true]
          obtain rfl : v246 = .bool (decide ((chosenL a keepPlain) = (chosenL b keepPlain))) := by rw [hv247, hg248, cond_true]
          exact op_eqlb und4 rfl rfl rfl ⟨told rfl rfl (by rw [hg248, cond_true]), (Below.refl _ _)⟩
        · intro W191 hW192
          rintro _ rfl
          intro v249 (hv250 : v249 = bif (((decide ((overR (overR a b) d) = (overR a (overR b d)))) && (decide ((overR (overR a b) d) = (effR [a, b, d])))) && (decide ((overR a a) = a))) then (.bool (decide ((sameR a b) = (decide ((chosenL a keepPlain) = (chosenL b keepPlain)))))) else undef)
          refine gather_nil ?_
          refine opg_none rfl ?_
          exact op_and rfl rfl rfl (fun h => by rw [hv250, h, cond_true]) rfl ⟨told rfl rfl rfl, (Below.refl _ _)⟩
        · intro W191 hW192
          rintro _ rfl
          refine gather_nil ?_
          refine opg_none rfl ?_
          exact op_move rfl rfl ⟨told rfl rfl rfl, (Below.refl _ _)⟩
        · intro W191 hW192
          rintro _ rfl
          refine gather_nil ?_
          refine opg_t1 rfl rfl (fun hg251 => ?_) (fun h => by rw [h, cond_false])
          refine op_call ent7 rfl (awake_spec) rfl ?_
          rintro _ W252 ⟨rfl, hE253⟩
          exact ⟨told rfl rfl (by rw [hg251, cond_true]), hE253⟩
        · intro W191 hW192
          rintro _ rfl
          intro v254 (hv255 : v254 = bif ((((decide ((overR (overR a b) d) = (overR a (overR b d)))) && (decide ((overR (overR a b) d) = (effR [a, b, d])))) && (decide ((overR a a) = a))) && (decide ((sameR a b) = (decide ((chosenL a keepPlain) = (chosenL b keepPlain)))))) then (.bool true) else undef)
          refine gather_nil ?_
          refine opg_none rfl ?_
          exact op_and rfl rfl rfl (fun h => by rw [hv255, h, cond_true]) rfl ⟨told rfl rfl rfl, (Below.refl _ _)⟩
        · intro W191 hW192
          rintro _ rfl
          refine gather_nil ?_
          refine opg_none rfl ?_
          exact op_assign rfl rfl ⟨told rfl rfl rfl, (Below.refl _ _)⟩
        intro W256 hW257
        rintro _ rfl
        refine gather_nil ?_
        refine (then_norm ?_)
        refine WC.sub [(6, .bool (((((decide ((overR (overR a b) d) = (overR a (overR b d)))) && (decide ((overR (overR a b) d) = (effR [a, b, d])))) && (decide ((overR a a) = a))) && (decide ((sameR a b) = (decide ((chosenL a keepPlain) = (chosenL b keepPlain)))))) && true))] ⟨rfl, trivial⟩ ?_
        refine wc_ret ?_
        have hB258 : Below w.heap.size w W256 := (below_step (below_step hB184 hE190) hW257)
        refine ⟨[_], ⟨rfl, trivial⟩, ⟨?_, hB258⟩⟩
        exact congrArg Value.bool (over_law hva hvb hvd)

end Go.Eng

set_option linter.unusedVariables false
set_option maxRecDepth 100000
namespace Go.Eng
open Go.RowKit Go.Shelf Go.Proofs Pol

theorem ent68 : Enters Try.prog 68 := enters_of Try.func68 (by kernel_rfl) rfl

abbrev keepAd (p : Pol) : Bool := decide (p.kind < 8)
def withoutL (s : List Pol) (q : Int) : List Pol := if validSet s = true ∧ isB q = true then s.filter (fun p => !decide (p.kind = q)) else []
def putL (s : List Pol) (p : Pol) : List Pol := if validB p = true then overR s [p] else []
def putE (s : List Pol) (p : Pol) : Int := if validB p = true then overE s [p] else 1

theorem Adapters1_spec {w : World} {a b : Int} : Ret Try.prog 68 #[.agg #[.int .i64 a, .int .i64 b]] w (fun v w' => v = .bool (keepAd ⟨a, b⟩) ∧ Below w.heap.size w w') := by
  refine ret_of (args := [.agg #[.int .i64 a, .int .i64 b]]) Try.func68 rfl Try.ntmps68 rfl (rs := [.tmp 2]) rfl ?_
  refine wc_seq ?_
  refine wc_region ?_
  refine wl_op rfl (op_box rfl rfl ?_)
  intro W1 b2 hN3
  have hb4 : W1.heap[b2]? = some (.cells #[.int .i64 a, .int .i64 b] 46 (0, 0)) := hN3.blk
  refine wl_op rfl (op_assign rfl rfl ?_)
  refine (wl_done (then_norm ?_))
  refine wc_seq ?_
  refine wc_region ?_
  refine wl_op rfl (op_fieldAddr rfl fa46_0 rfl ?_)
  refine wl_op rfl (op_load1 (v := .int .i64 a) rfl agg3 (cell_blk hb4 rfl) rfl ?_)
  refine wl_op rfl (op_lss rfl rfl rfl ?_)
  refine wl_op rfl (op_assign rfl rfl ?_)
  refine (wl_done (then_norm ?_))
  refine wc_ret ?_
  have hB5 : Below w.heap.size w W1 := (below_new (Below.refl _ _) hN3)
  refine ⟨[_], ⟨rfl, trivial⟩, ⟨?_, hB5⟩⟩
  exact rfl

theorem Adapters_spec {w : World} {A : Option Addr} {n c : Nat} {s : List Pol} (hs : RdP w A n s) (hn : n ≤ 1000) : Ret Try.prog 34 #[.slice A n c] w (fun v w' => ∃ (A1 : Option Addr) (n1 c1 : Nat), v = .tuple #[.slice A1 n1 c1, .int .i64 (chosenE s)] ∧ RdP w' A1 n1 (chosenL s keepAd) ∧ Below w.heap.size w w') := by
  obtain ⟨bs1, os2, hA3, hc4⟩ := hs.flat
  have hln5 := hs.len
  have hbd6 := hs.bd
  have hlen_s := hs.len
  refine ret_of (args := [.slice A n c]) Try.func34 rfl Try.ntmps34 rfl (rs := [.tmp 2, .tmp 3]) rfl ?_
  refine wc_seq ?_
  refine wc_region ?_
  refine wl_op rfl (op_assign rfl rfl ?_)
  refine wl_op rfl (op_assign rfl rfl ?_)
  refine (wl_done (then_norm ?_))
  refine wc_seq ?_
  refine wc_region ?_
  refine wl_op rfl (op_move rfl rfl ?_)
  refine wl_op rfl (op_call ent57 rfl (chosen_spec hs hn ent68 (fun W a b hv hm hW => Adapters1_spec) (keep := keepAd)) rfl ?_)
  rintro _ W11 ⟨A17, n18, c19, rfl, hp10, hE12⟩
  refine wl_op rfl (op_extract (v := .slice A17 n18 c19) rfl rfl rfl ?_)
  refine wl_op rfl (op_extract (v := .int .i64 (chosenE s)) rfl rfl rfl ?_)
  refine wl_op rfl (op_assign rfl rfl ?_)
  refine wl_op rfl (op_assign rfl rfl ?_)
  refine (wl_done (then_norm ?_))
  refine wc_ret ?_
  have hB13 : Below w.heap.size w W11 := (below_step (Below.refl _ _) hE12)
  refine ⟨[_, _], ⟨rfl, rfl, trivial⟩, ⟨A17, n18, c19, ?_, hp10, hB13⟩⟩
  exact rfl

theorem Without1_spec {w : World} {a b q : Int} {b1 : Nat} (hb1 : w.heap[b1]? = some (.cells #[.int .i64 q] 3 (0, 0))) : Ret Try.prog 67 #[.agg #[.int .i64 a, .int .i64 b], .pointer (some ⟨b1, 0, none⟩)] w (fun v w' => v = .bool (!decide (a = q)) ∧ Below w.heap.size w w') := by
  refine ret_of (args := [.agg #[.int .i64 a, .int .i64 b], .pointer (some ⟨b1, 0, none⟩)]) Try.func67 rfl Try.ntmps67 rfl (rs := [.tmp 3]) rfl ?_
  refine wc_seq ?_
  refine wc_region ?_
  refine wl_op rfl (op_box rfl rfl ?_)
  intro W1 b2 hN3
  have hb4 : W1.heap[b2]? = some (.cells #[.int .i64 a, .int .i64 b] 46 (0, 0)) := hN3.blk
  refine wl_op rfl (op_assign rfl rfl ?_)
  refine (wl_done (then_norm ?_))
  refine wc_seq ?_
  refine wc_region ?_
  refine wl_op rfl (op_fieldAddr rfl fa46_0 rfl ?_)
  refine wl_op rfl (op_load1 (v := .int .i64 a) rfl agg3 (cell_blk hb4 rfl) rfl ?_)
  have hb5 : W1.heap[b1]? = some (.cells #[.int .i64 q] 3 (0, 0)) := (blk_ext hb1 hN3.ext)
  refine wl_op rfl (op_load1 (v := .int .i64 q) rfl agg3 (cell_blk hb5 rfl) rfl ?_)
  refine wl_op rfl (op_neq rfl rfl rfl ?_)
  refine wl_op rfl (op_assign rfl rfl ?_)
  refine (wl_done (then_norm ?_))
  refine WC.sub [(3, .bool (!decide (a = q)))] ⟨rfl, trivial⟩ ?_
  refine wc_ret ?_
  have hB6 : Below w.heap.size w W1 := (below_new (Below.refl _ _) hN3)
  refine ⟨[_], ⟨rfl, trivial⟩, ⟨?_, hB6⟩⟩
  exact rfl

theorem rGet_spec {w : World} {A : Option Addr} {n c : Nat} {s : List Pol} {k : Int} (hs : RdP w A n s) : Ret Try.prog 24 #[.slice A n c, .int .i64 k] w (fun v w' => v = .tuple #[.int .i64 (getV s k), .int .i64 (getE s k)] ∧ Below w.heap.size w w') := by
  obtain ⟨bs1, os2, hA3, hc4⟩ := hs.flat
  have hln5 := hs.len
  have hbd6 := hs.bd
  have hlen_s := hs.len
  refine ret_of (args := [.slice A n c, .int .i64 k]) Try.func24 rfl Try.ntmps24 rfl (rs := [.tmp 4, .tmp 5]) rfl ?_
  refine wc_seq ?_
  refine wc_region ?_
  refine wl_op rfl (op_assign rfl rfl ?_)
  refine wl_op rfl (op_assign rfl rfl ?_)
  refine (wl_done (then_norm ?_))
  refine wc_seq ?_
  refine wc_block ?_
  refine wc_seq ?_
  refine wc_region ?_
  refine wl_op rfl (op_move rfl rfl ?_)
  refine wl_op rfl (op_call ent28 rfl (rValidSet_spec hs) rfl ?_)
  rintro _ W7 ⟨rfl, hE8⟩
  refine wl_op rfl (op_not rfl rfl ?_)
  refine wl_op rfl (op_assign rfl rfl ?_)
  refine (wl_done (then_norm ?_))
  refine wc_cond (b := !(validSet s)) rfl (fun hc9 => ?_) (fun hc9 => ?_)
  · have hv : validSet s = false := by simpa using hc9
    refine wc_seq ?_
    refine wc_region ?_
    refine wl_op rfl (op_assign rfl rfl ?_)
    refine wl_op rfl (op_assign rfl rfl ?_)
    refine (wl_done (then_norm ?_))
    refine wc_ret ?_
    refine (block_ret (then_ret ?_))
    have hB10 : Below w.heap.size w W7 := (below_step (Below.refl _ _) hE8)
    refine ⟨[_, _], ⟨rfl, rfl, trivial⟩, ⟨?_, hB10⟩⟩
    rw [getV, getE, if_neg (fun h => by rw [hv] at h; cases h.1), if_neg (by rw [hv]; decide)]
    rfl
  · have hv : validSet s = true := by simpa using hc9
    refine wc_seq ?_
    refine wc_region ?_
    refine wl_op rfl (op_move rfl rfl ?_)
    refine wl_op rfl (op_call ent64 rfl (Kind_spec) rfl ?_)
    rintro _ W11 ⟨rfl, hE12⟩
    refine wl_op rfl (op_not rfl rfl ?_)
    refine wl_op rfl (op_assign rfl rfl ?_)
    refine (wl_done (then_norm ?_))
    refine WC.sub [(0, .slice A n c), (1, .int .i64 k), (4, .int .i64 0), (5, .int .i64 0), (10, .bool (!(isB k)))] ⟨rfl, rfl, rfl, rfl, rfl, trivial⟩ ?_
    refine wc_cond (b := !(isB k)) rfl (fun hc13 => ?_) (fun hc13 => ?_)
    · have hb : isB k = false := by simpa using hc13
      refine wc_seq ?_
      refine wc_region ?_
      refine wl_op rfl (op_assign rfl rfl ?_)
      refine wl_op rfl (op_assign rfl rfl ?_)
      refine (wl_done (then_norm ?_))
      refine wc_ret ?_
      refine (block_ret (then_ret ?_))
      have hB14 : Below w.heap.size w W11 := (below_step (below_step (Below.refl _ _) hE8) hE12)
      refine ⟨[_, _], ⟨rfl, rfl, trivial⟩, ⟨?_, hB14⟩⟩
      rw [getV, getE, if_neg (fun h => by rw [hb] at h; cases h.2), if_pos hv, if_neg (by rw [hb]; decide)]
      rfl
    · have hb : isB k = true := by simpa using hc13
      refine wc_skip ?_
      refine (block_norm (then_norm ?_))
      refine wc_seq ?_
      refine wc_region ?_
      refine wl_op rfl (op_move rfl rfl ?_)
      refine wl_op rfl (op_move rfl rfl ?_)
      have hB15 : Below w.heap.size w W11 := (below_step (below_step (Below.refl _ _) hE8) hE12)
      refine wl_op rfl (op_call ent48 rfl (rvalue_spec (hs.ext (flat_lifts _) hB15)) rfl ?_)
      rintro _ W16 ⟨rfl, hE17⟩
      refine wl_op rfl (op_assign rfl rfl ?_)
      refine wl_op rfl (op_assign rfl rfl ?_)
      refine (wl_done (then_norm ?_))
      refine WC.sub [(4, .int .i64 (valueOf s k)), (5, .int .i64 0)] ⟨rfl, rfl, trivial⟩ ?_
      refine wc_ret ?_
      have hB18 : Below w.heap.size w W16 := (below_step hB15 hE17)
      refine ⟨[_, _], ⟨rfl, rfl, trivial⟩, ⟨?_, hB18⟩⟩
      rw [getV, getE, if_pos ⟨hv, hb⟩, if_pos hv, if_pos hb]
      rfl

theorem Default_spec {w : World} {k : Int} : Ret Try.prog 29 #[.int .i64 k] w (fun v w' => v = .tuple #[.int .i64 (getV [] k), .int .i64 (getE [] k)] ∧ Below w.heap.size w w') := by
  refine ret_of (args := [.int .i64 k]) Try.func29 rfl Try.ntmps29 rfl (rs := [.tmp 2, .tmp 3]) rfl ?_
  refine wc_seq ?_
  refine wc_region ?_
  refine wl_op rfl (op_assign rfl rfl ?_)
  refine wl_op rfl (op_assign rfl rfl ?_)
  refine (wl_done (then_norm ?_))
  refine wc_seq ?_
  refine wc_region ?_
  refine wl_op rfl (op_move rfl rfl ?_)
  refine wl_op rfl (op_call ent13 rfl (Get_spec (rd_nil _ _ _)) rfl ?_)
  rintro _ W1 ⟨rfl, hE2⟩
  refine wl_op rfl (op_extract (v := .int .i64 (getV [] k)) rfl rfl rfl ?_)
  refine wl_op rfl (op_extract (v := .int .i64 (getE [] k)) rfl rfl rfl ?_)
  refine wl_op rfl (op_assign rfl rfl ?_)
  refine wl_op rfl (op_assign rfl rfl ?_)
  refine (wl_done (then_norm ?_))
  refine wc_ret ?_
  have hB3 : Below w.heap.size w W1 := (below_step (Below.refl _ _) hE2)
  refine ⟨[_, _], ⟨rfl, rfl, trivial⟩, ⟨?_, hB3⟩⟩
  exact rfl

end Go.Eng
