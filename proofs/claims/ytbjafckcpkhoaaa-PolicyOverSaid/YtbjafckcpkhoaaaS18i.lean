/- Lemmas for a law of the seat: what functions of the program do, each stated as a contract of its own (module S18i). -/
import Derived.Test.YtbjafckcpkhoaaaS18h
import Derived.Test.YtbjafckcpkhoaaaChecked
set_option linter.unusedVariables false
set_option maxRecDepth 100000
namespace Go.Eng
open Go.RowKit Go.Shelf Go.Proofs Pol



theorem bad4 {s : List Pol} (h : 1 ≤ valueOf s 11) : badOf s ⟨8, 11, fun p q => (decide (p = 3)) && (decide (1 < q))⟩ = ((decide (valueOf s 8 = 3)) && (!decide (valueOf s 11 = 1))) := by
  show ((decide (valueOf s 8 = 3)) && (decide (1 < valueOf s 11))) = _
  congr 1
  rw [Bool.eq_iff_iff]; simp; omega
theorem bad5 {s : List Pol} : badOf s ⟨9, 11, fun p q => (decide (p < 3)) && (decide (q = 3))⟩ = ((decide (valueOf s 9 ≤ 2)) && (decide (valueOf s 11 = 3))) := by
  show ((decide (valueOf s 9 < 3)) && (decide (valueOf s 11 = 3))) = _
  congr 1
  rw [Bool.eq_iff_iff]; simp; omega

theorem rclashes_spec {w : World} {A : Option Addr} {n c : Nat} {s : List Pol} (hs : RdP w A n s) (hr : 1 ≤ valueOf s 11) : Ret Try.prog 41 #[.slice A n c] w (fun v w' => ∃ (A1 : Option Addr) (n1 c1 : Nat), v = .slice A1 n1 c1 ∧ RdQ w' A1 n1 (clashList s) ∧ Below w.heap.size w w') := by
  obtain ⟨bs1, os2, hA3, hc4⟩ := hs.flat
  have hln5 := hs.len
  have hbd6 := hs.bd
  have hlen_s := hs.len
  refine ret_of (args := [.slice A n c]) Try.func41 rfl Try.ntmps41 rfl (rs := [.tmp 2]) rfl ?_
  refine wc_seq ?_
  refine wc_region ?_
  refine wl_op rfl (op_assign rfl rfl ?_)
  refine (wl_done (then_norm ?_))
  refine wc_seq ?_
  refine wc_region ?_
  refine wl_op rfl (op_assign rfl rfl ?_)
  refine (wl_done (then_norm ?_))
  refine wc_join (fun l' w' => ∃ (v : Value), Sub [(0, .slice A n c), (2, .slice none 0 0), (3, v)] l' ∧ Below w.heap.size w w' ∧ (Own encQ w.heap.size 29 2 w' v (((clashRows.take (0 + 1)).filter (badOf s)).map pairOf))) ?_ ?_
  · refine wc_seq ?_
    refine wc_text [(0, .slice A n c), (2, .slice none 0 0), (3, .slice none 0 0)] ⟨rfl, rfl, rfl, trivial⟩ [fun v _ => v = .slice A n c, fun v _ => v = .int .i64 (valueOf s 3), fun v _ => v = .bool (decide (valueOf s 3 = 1)), fun v _ => v = .bool (decide (valueOf s 3 = 1)), fun v _ => v = (bif (decide (valueOf s 3 = 1)) then (.slice A n c) else undef), fun v _ => v = (bif (decide (valueOf s 3 = 1)) then (.int .i64 (valueOf s 6)) else undef), fun v _ => v = (bif (decide (valueOf s 3 = 1)) then (.bool (decide (valueOf s 6 = 2))) else undef), fun v _ => v = .bool ((decide (valueOf s 3 = 1)) && (decide (valueOf s 6 = 2)))] [[], [0], [1], [2], [3], [3, 4], [3, 5], [3, 6]] [7] rfl rfl rfl ⟨fun _ _ _ _ h => h, fun _ _ _ _ h => h, fun _ _ _ _ h => h, fun _ _ _ _ h => h, fun _ _ _ _ h => h, fun _ _ _ _ h => h, fun _ _ _ _ h => h, fun _ _ _ _ h => h, trivial⟩ ⟨?_, ?_, ?_, ?_, ?_, ?_, ?_, ?_, trivial⟩ ?_
    · intro W8 hW9
      refine gather_nil ?_
      refine opg_none rfl ?_
      exact op_move rfl rfl ⟨told rfl rfl rfl, (Below.refl _ _)⟩
    · intro W8 hW9
      rintro _ rfl
      refine gather_nil ?_
      refine opg_none rfl ?_
      have hB12 : Below w.heap.size w W8 := (below_step (Below.refl _ _) hW9)
      refine op_call ent48 rfl (rvalue_spec (hs.ext (flat_lifts _) hB12)) rfl ?_
      rintro _ W13 ⟨rfl, hE14⟩
      exact ⟨told rfl rfl rfl, hE14⟩
    · intro W8 hW9
      rintro _ rfl
      refine gather_nil ?_
      refine opg_none rfl ?_
      exact op_eql rfl rfl rfl ⟨told rfl rfl rfl, (Below.refl _ _)⟩
    · intro W8 hW9
      rintro _ rfl
      refine gather_nil ?_
      refine opg_none rfl ?_
      exact op_move rfl rfl ⟨told rfl rfl rfl, (Below.refl _ _)⟩
    · intro W8 hW9
      rintro _ rfl
      refine gather_nil ?_
      refine opg_t1 rfl rfl (fun hg15 => ?_) (fun h => by rw [h, cond_false])
      exact op_move rfl rfl ⟨told rfl rfl (by rw [hg15, cond_true]), (Below.refl _ _)⟩
    · intro W8 hW9
      rintro _ rfl
      intro v16 (hv17 : v16 = bif (decide (valueOf s 3 = 1)) then (.slice A n c) else undef)
      refine gather_nil ?_
      refine opg_t1 rfl rfl (fun hg18 => ?_) (fun h => by rw [h, cond_false])
      have hd19 := of_decide_eq_true hg18
      obtain rfl : v16 = .slice A n c := by rw [hv17, hg18, cond_true]
      have hB20 : Below w.heap.size w W8 := (below_step (Below.refl _ _) hW9)
      refine op_call ent48 rfl (rvalue_spec (hs.ext (flat_lifts _) hB20)) rfl ?_
      rintro _ W21 ⟨rfl, hE22⟩
      exact ⟨told rfl rfl (by rw [hg18, cond_true]), hE22⟩
    · intro W8 hW9
      rintro _ rfl
      intro v23 (hv24 : v23 = bif (decide (valueOf s 3 = 1)) then (.int .i64 (valueOf s 6)) else undef)
      refine gather_nil ?_
      refine opg_t1 rfl rfl (fun hg25 => ?_) (fun h => by rw [h, cond_false])
      have hd26 := of_decide_eq_true hg25
      obtain rfl : v23 = .int .i64 (valueOf s 6) := by rw [hv24, hg25, cond_true]
      exact op_eql rfl rfl rfl ⟨told rfl rfl (by rw [hg25, cond_true]), (Below.refl _ _)⟩
    · intro W8 hW9
      rintro _ rfl
      intro v27 (hv28 : v27 = bif (decide (valueOf s 3 = 1)) then (.bool (decide (valueOf s 6 = 2))) else undef)
      refine gather_nil ?_
      refine opg_none rfl ?_
      exact op_and rfl rfl rfl (fun h => by rw [hv28, h, cond_true]) rfl ⟨told rfl rfl rfl, (Below.refl _ _)⟩
    intro W29 hW30
    rintro _ rfl
    refine gather_nil ?_
    refine (then_norm ?_)
    refine wc_cond (b := (decide (valueOf s 3 = 1)) && (decide (valueOf s 6 = 2))) rfl (fun hc31 => ?_) (fun hc31 => ?_)
    · refine wc_region ?_
      refine wl_op rfl (op_move rfl rfl ?_)
      refine wl_op rfl (op_build (v := .agg #[.int .i64 3, .int .i64 6]) rfl (fun w => by kernel_rfl) rfl ?_)
      refine wl_op rfl (op_buildSlice (cs := #[.int .i64 3, .int .i64 6]) (e := 29) rfl (fun w => by kernel_rfl) rfl ?_)
      intro W32 b33 hN34
      have hb35 : W32.heap[b33]? = some (.cells #[.int .i64 3, .int .i64 6] 29 (0, 0)) := hN34.blk
      have hB41 : Below w.heap.size w W32 := (below_new (below_step (Below.refl _ _) hW30) hN34)
      refine wl_op rfl (op_appendP (enc := encQ) (3, 6) rfl rfl app25 rfl rfl (own_nil encQ w.heap.size 29 2 _) (cells_blk hb35) rfl rfl (by first | (simp only [List.length_nil]; omega) | (have := clash_le s (0 + 1); omega) | (have := clash_le s (1 + 1); omega) | (have := clash_le s (2 + 1); omega) | (have := clash_le s (3 + 1); omega) | (have := clash_le s (4 + 1); omega) | (have := clash_le s (5 + 1); omega) | (have := clash_le s (6 + 1); omega)) (by first | (simp only [List.length_nil]; omega) | (have := clash_le s (0 + 1); omega) | (have := clash_le s (1 + 1); omega) | (have := clash_le s (2 + 1); omega) | (have := clash_le s (3 + 1); omega) | (have := clash_le s (4 + 1); omega) | (have := clash_le s (5 + 1); omega) | (have := clash_le s (6 + 1); omega)) hB41.size rfl ?_)
      intro v36 W37 ho38 hg39 hob40
      simp only [List.nil_append] at ho38
      refine wl_op rfl (op_assign rfl rfl ?_)
      refine (wl_done (then_norm ?_))
      have hb : badOf s (⟨3, 6, bothB 1 2⟩) = true := hc31
      have hB42 : Below w.heap.size w W37 := (below_grown hB41 (own_nil encQ w.heap.size 29 2 _) hg39 (Nat.le_refl _))
      exact ⟨v36, ⟨rfl, rfl, rfl, trivial⟩, hB42, (by rw [take_filter_t (rfl : clashRows[0]? = some _) hb, List.map_append]; exact ho38)⟩
    · refine wc_skip ?_
      refine (then_norm ?_)
      have hb : badOf s (⟨3, 6, bothB 1 2⟩) = false := hc31
      have hB43 : Below w.heap.size w W29 := (below_step (Below.refl _ _) hW30)
      exact ⟨.slice none 0 0, ⟨rfl, rfl, rfl, trivial⟩, hB43, (by rw [take_filter_f (rfl : clashRows[0]? = some _) hb]; exact (own_nil _ _ _ _ _))⟩
  · rintro l' W7 ⟨v, hsub, hE44, hown⟩
    refine WC.sub _ hsub ?_
    refine wc_join (fun l' w' => ∃ (v : Value), Sub [(0, .slice A n c), (2, .slice none 0 0), (3, v)] l' ∧ Below w.heap.size w w' ∧ (Own encQ w.heap.size 29 2 w' v (((clashRows.take (1 + 1)).filter (badOf s)).map pairOf))) ?_ ?_
    · refine wc_seq ?_
      refine wc_text [(0, .slice A n c), (2, .slice none 0 0), (3, v)] ⟨rfl, rfl, rfl, trivial⟩ [fun v _ => v = .slice A n c, fun v _ => v = .int .i64 (valueOf s 4), fun v _ => v = .bool (decide (valueOf s 4 = 2)), fun v _ => v = .bool (decide (valueOf s 4 = 2)), fun v _ => v = (bif (decide (valueOf s 4 = 2)) then (.slice A n c) else undef), fun v _ => v = (bif (decide (valueOf s 4 = 2)) then (.int .i64 (valueOf s 7)) else undef), fun v _ => v = (bif (decide (valueOf s 4 = 2)) then (.bool (decide (valueOf s 7 = 2))) else undef), fun v _ => v = .bool ((decide (valueOf s 4 = 2)) && (decide (valueOf s 7 = 2)))] [[], [0], [1], [2], [3], [3, 4], [3, 5], [3, 6]] [7] rfl rfl rfl ⟨fun _ _ _ _ h => h, fun _ _ _ _ h => h, fun _ _ _ _ h => h, fun _ _ _ _ h => h, fun _ _ _ _ h => h, fun _ _ _ _ h => h, fun _ _ _ _ h => h, fun _ _ _ _ h => h, trivial⟩ ⟨?_, ?_, ?_, ?_, ?_, ?_, ?_, ?_, trivial⟩ ?_
      · intro W46 hW47
        refine gather_nil ?_
        refine opg_none rfl ?_
        exact op_move rfl rfl ⟨told rfl rfl rfl, (Below.refl _ _)⟩
      · intro W46 hW47
        rintro _ rfl
        refine gather_nil ?_
        refine opg_none rfl ?_
        have hB50 : Below w.heap.size w W46 := (below_step (below_step (Below.refl _ _) hE44) hW47)
        refine op_call ent48 rfl (rvalue_spec (hs.ext (flat_lifts _) hB50)) rfl ?_
        rintro _ W51 ⟨rfl, hE52⟩
        exact ⟨told rfl rfl rfl, hE52⟩
      · intro W46 hW47
        rintro _ rfl
        refine gather_nil ?_
        refine opg_none rfl ?_
        exact op_eql rfl rfl rfl ⟨told rfl rfl rfl, (Below.refl _ _)⟩
      · intro W46 hW47
        rintro _ rfl
        refine gather_nil ?_
        refine opg_none rfl ?_
        exact op_move rfl rfl ⟨told rfl rfl rfl, (Below.refl _ _)⟩
      · intro W46 hW47
        rintro _ rfl
        refine gather_nil ?_
        refine opg_t1 rfl rfl (fun hg53 => ?_) (fun h => by rw [h, cond_false])
        exact op_move rfl rfl ⟨told rfl rfl (by rw [hg53, cond_true]), (Below.refl _ _)⟩
      · intro W46 hW47
        rintro _ rfl
        intro v54 (hv55 : v54 = bif (decide (valueOf s 4 = 2)) then (.slice A n c) else undef)
        refine gather_nil ?_
        refine opg_t1 rfl rfl (fun hg56 => ?_) (fun h => by rw [h, cond_false])
        have hd57 := of_decide_eq_true hg56
        obtain rfl : v54 = .slice A n c := by rw [hv55, hg56, cond_true]
        have hB58 : Below w.heap.size w W46 := (below_step (below_step (Below.refl _ _) hE44) hW47)
        refine op_call ent48 rfl (rvalue_spec (hs.ext (flat_lifts _) hB58)) rfl ?_
        rintro _ W59 ⟨rfl, hE60⟩
        exact ⟨told rfl rfl (by rw [hg56, cond_true]), hE60⟩
      · intro W46 hW47
        rintro _ rfl
        intro v61 (hv62 : v61 = bif (decide (valueOf s 4 = 2)) then (.int .i64 (valueOf s 7)) else undef)
        refine gather_nil ?_
        refine opg_t1 rfl rfl (fun hg63 => ?_) (fun h => by rw [h, cond_false])
        have hd64 := of_decide_eq_true hg63
        obtain rfl : v61 = .int .i64 (valueOf s 7) := by rw [hv62, hg63, cond_true]
        exact op_eql rfl rfl rfl ⟨told rfl rfl (by rw [hg63, cond_true]), (Below.refl _ _)⟩
      · intro W46 hW47
        rintro _ rfl
        intro v65 (hv66 : v65 = bif (decide (valueOf s 4 = 2)) then (.bool (decide (valueOf s 7 = 2))) else undef)
        refine gather_nil ?_
        refine opg_none rfl ?_
        exact op_and rfl rfl rfl (fun h => by rw [hv66, h, cond_true]) rfl ⟨told rfl rfl rfl, (Below.refl _ _)⟩
      intro W67 hW68
      rintro _ rfl
      refine gather_nil ?_
      refine (then_norm ?_)
      refine wc_cond (b := (decide (valueOf s 4 = 2)) && (decide (valueOf s 7 = 2))) rfl (fun hc69 => ?_) (fun hc69 => ?_)
      · refine wc_region ?_
        refine wl_op rfl (op_move rfl rfl ?_)
        refine wl_op rfl (op_build (v := .agg #[.int .i64 4, .int .i64 7]) rfl (fun w => by kernel_rfl) rfl ?_)
        refine wl_op rfl (op_buildSlice (cs := #[.int .i64 4, .int .i64 7]) (e := 29) rfl (fun w => by kernel_rfl) rfl ?_)
        intro W70 b71 hN72
        have hb73 : W70.heap[b71]? = some (.cells #[.int .i64 4, .int .i64 7] 29 (0, 0)) := hN72.blk
        have hB79 : Below w.heap.size w W70 := (below_new (below_step (below_step (Below.refl _ _) hE44) hW68) hN72)
        refine wl_op rfl (op_appendP (enc := encQ) (4, 7) rfl rfl app25 rfl rfl (Own.ext (Own.ext hown hW68) hN72.ext) (cells_blk hb73) rfl rfl (by first | (simp only [List.length_nil]; omega) | (have := clash_le s (0 + 1); omega) | (have := clash_le s (1 + 1); omega) | (have := clash_le s (2 + 1); omega) | (have := clash_le s (3 + 1); omega) | (have := clash_le s (4 + 1); omega) | (have := clash_le s (5 + 1); omega) | (have := clash_le s (6 + 1); omega)) (by first | (simp only [List.length_nil]; omega) | (have := clash_le s (0 + 1); omega) | (have := clash_le s (1 + 1); omega) | (have := clash_le s (2 + 1); omega) | (have := clash_le s (3 + 1); omega) | (have := clash_le s (4 + 1); omega) | (have := clash_le s (5 + 1); omega) | (have := clash_le s (6 + 1); omega)) hB79.size rfl ?_)
        intro v74 W75 ho76 hg77 hob78
        refine wl_op rfl (op_assign rfl rfl ?_)
        refine (wl_done (then_norm ?_))
        have hb : badOf s (⟨4, 7, bothB 2 2⟩) = true := hc69
        have hB80 : Below w.heap.size w W75 := (below_grown hB79 (Own.ext (Own.ext hown hW68) hN72.ext) hg77 (Nat.le_refl _))
        exact ⟨v74, ⟨rfl, rfl, rfl, trivial⟩, hB80, (by rw [take_filter_t (rfl : clashRows[1]? = some _) hb, List.map_append]; exact ho76)⟩
      · refine wc_skip ?_
        refine (then_norm ?_)
        have hb : badOf s (⟨4, 7, bothB 2 2⟩) = false := hc69
        have hB81 : Below w.heap.size w W67 := (below_step (below_step (Below.refl _ _) hE44) hW68)
        exact ⟨v, ⟨rfl, rfl, rfl, trivial⟩, hB81, (by rw [take_filter_f (rfl : clashRows[1]? = some _) hb]; exact (Own.ext hown hW68))⟩
    · rintro l' W45 ⟨v, hsub, hE82, hown⟩
      refine WC.sub _ hsub ?_
      refine wc_join (fun l' w' => ∃ (v : Value), Sub [(0, .slice A n c), (2, .slice none 0 0), (3, v)] l' ∧ Below w.heap.size w w' ∧ (Own encQ w.heap.size 29 2 w' v (((clashRows.take (2 + 1)).filter (badOf s)).map pairOf))) ?_ ?_
      · refine wc_seq ?_
        refine wc_text [(0, .slice A n c), (2, .slice none 0 0), (3, v)] ⟨rfl, rfl, rfl, trivial⟩ [fun v _ => v = .slice A n c, fun v _ => v = .int .i64 (valueOf s 5), fun v _ => v = .bool (decide (valueOf s 5 = 2)), fun v _ => v = .bool (decide (valueOf s 5 = 2)), fun v _ => v = (bif (decide (valueOf s 5 = 2)) then (.slice A n c) else undef), fun v _ => v = (bif (decide (valueOf s 5 = 2)) then (.int .i64 (valueOf s 6)) else undef), fun v _ => v = (bif (decide (valueOf s 5 = 2)) then (.bool (decide (valueOf s 6 = 1))) else undef), fun v _ => v = .bool ((decide (valueOf s 5 = 2)) && (decide (valueOf s 6 = 1)))] [[], [0], [1], [2], [3], [3, 4], [3, 5], [3, 6]] [7] rfl rfl rfl ⟨fun _ _ _ _ h => h, fun _ _ _ _ h => h, fun _ _ _ _ h => h, fun _ _ _ _ h => h, fun _ _ _ _ h => h, fun _ _ _ _ h => h, fun _ _ _ _ h => h, fun _ _ _ _ h => h, trivial⟩ ⟨?_, ?_, ?_, ?_, ?_, ?_, ?_, ?_, trivial⟩ ?_
        · intro W84 hW85
          refine gather_nil ?_
          refine opg_none rfl ?_
          exact op_move rfl rfl ⟨told rfl rfl rfl, (Below.refl _ _)⟩
        · intro W84 hW85
          rintro _ rfl
          refine gather_nil ?_
          refine opg_none rfl ?_
          have hB88 : Below w.heap.size w W84 := (below_step (below_step (Below.refl _ _) hE82) hW85)
          refine op_call ent48 rfl (rvalue_spec (hs.ext (flat_lifts _) hB88)) rfl ?_
          rintro _ W89 ⟨rfl, hE90⟩
          exact ⟨told rfl rfl rfl, hE90⟩
        · intro W84 hW85
          rintro _ rfl
          refine gather_nil ?_
          refine opg_none rfl ?_
          exact op_eql rfl rfl rfl ⟨told rfl rfl rfl, (Below.refl _ _)⟩
        · intro W84 hW85
          rintro _ rfl
          refine gather_nil ?_
          refine opg_none rfl ?_
          exact op_move rfl rfl ⟨told rfl rfl rfl, (Below.refl _ _)⟩
        · intro W84 hW85
          rintro _ rfl
          refine gather_nil ?_
          refine opg_t1 rfl rfl (fun hg91 => ?_) (fun h => by rw [h, cond_false])
          exact op_move rfl rfl ⟨told rfl rfl (by rw [hg91, cond_true]), (Below.refl _ _)⟩
        · intro W84 hW85
          rintro _ rfl
          intro v92 (hv93 : v92 = bif (decide (valueOf s 5 = 2)) then (.slice A n c) else undef)
          refine gather_nil ?_
          refine opg_t1 rfl rfl (fun hg94 => ?_) (fun h => by rw [h, cond_false])
          have hd95 := of_decide_eq_true hg94
          obtain rfl : v92 = .slice A n c := by rw [hv93, hg94, cond_true]
          have hB96 : Below w.heap.size w W84 := (below_step (below_step (Below.refl _ _) hE82) hW85)
          refine op_call ent48 rfl (rvalue_spec (hs.ext (flat_lifts _) hB96)) rfl ?_
          rintro _ W97 ⟨rfl, hE98⟩
          exact ⟨told rfl rfl (by rw [hg94, cond_true]), hE98⟩
        · intro W84 hW85
          rintro _ rfl
          intro v99 (hv100 : v99 = bif (decide (valueOf s 5 = 2)) then (.int .i64 (valueOf s 6)) else undef)
          refine gather_nil ?_
          refine opg_t1 rfl rfl (fun hg101 => ?_) (fun h => by rw [h, cond_false])
          have hd102 := of_decide_eq_true hg101
          obtain rfl : v99 = .int .i64 (valueOf s 6) := by rw [hv100, hg101, cond_true]
          exact op_eql rfl rfl rfl ⟨told rfl rfl (by rw [hg101, cond_true]), (Below.refl _ _)⟩
        · intro W84 hW85
          rintro _ rfl
          intro v103 (hv104 : v103 = bif (decide (valueOf s 5 = 2)) then (.bool (decide (valueOf s 6 = 1))) else undef)
          refine gather_nil ?_
          refine opg_none rfl ?_
          exact op_and rfl rfl rfl (fun h => by rw [hv104, h, cond_true]) rfl ⟨told rfl rfl rfl, (Below.refl _ _)⟩
        intro W105 hW106
        rintro _ rfl
        refine gather_nil ?_
        refine (then_norm ?_)
        refine wc_cond (b := (decide (valueOf s 5 = 2)) && (decide (valueOf s 6 = 1))) rfl (fun hc107 => ?_) (fun hc107 => ?_)
        · refine wc_region ?_
          refine wl_op rfl (op_move rfl rfl ?_)
          refine wl_op rfl (op_build (v := .agg #[.int .i64 5, .int .i64 6]) rfl (fun w => by kernel_rfl) rfl ?_)
          refine wl_op rfl (op_buildSlice (cs := #[.int .i64 5, .int .i64 6]) (e := 29) rfl (fun w => by kernel_rfl) rfl ?_)
          intro W108 b109 hN110
          have hb111 : W108.heap[b109]? = some (.cells #[.int .i64 5, .int .i64 6] 29 (0, 0)) := hN110.blk
          have hB117 : Below w.heap.size w W108 := (below_new (below_step (below_step (Below.refl _ _) hE82) hW106) hN110)
          refine wl_op rfl (op_appendP (enc := encQ) (5, 6) rfl rfl app25 rfl rfl (Own.ext (Own.ext hown hW106) hN110.ext) (cells_blk hb111) rfl rfl (by first | (simp only [List.length_nil]; omega) | (have := clash_le s (0 + 1); omega) | (have := clash_le s (1 + 1); omega) | (have := clash_le s (2 + 1); omega) | (have := clash_le s (3 + 1); omega) | (have := clash_le s (4 + 1); omega) | (have := clash_le s (5 + 1); omega) | (have := clash_le s (6 + 1); omega)) (by first | (simp only [List.length_nil]; omega) | (have := clash_le s (0 + 1); omega) | (have := clash_le s (1 + 1); omega) | (have := clash_le s (2 + 1); omega) | (have := clash_le s (3 + 1); omega) | (have := clash_le s (4 + 1); omega) | (have := clash_le s (5 + 1); omega) | (have := clash_le s (6 + 1); omega)) hB117.size rfl ?_)
          intro v112 W113 ho114 hg115 hob116
          refine wl_op rfl (op_assign rfl rfl ?_)
          refine (wl_done (then_norm ?_))
          have hb : badOf s (⟨5, 6, bothB 2 1⟩) = true := hc107
          have hB118 : Below w.heap.size w W113 := (below_grown hB117 (Own.ext (Own.ext hown hW106) hN110.ext) hg115 (Nat.le_refl _))
          exact ⟨v112, ⟨rfl, rfl, rfl, trivial⟩, hB118, (by rw [take_filter_t (rfl : clashRows[2]? = some _) hb, List.map_append]; exact ho114)⟩
        · refine wc_skip ?_
          refine (then_norm ?_)
          have hb : badOf s (⟨5, 6, bothB 2 1⟩) = false := hc107
          have hB119 : Below w.heap.size w W105 := (below_step (below_step (Below.refl _ _) hE82) hW106)
          exact ⟨v, ⟨rfl, rfl, rfl, trivial⟩, hB119, (by rw [take_filter_f (rfl : clashRows[2]? = some _) hb]; exact (Own.ext hown hW106))⟩
      · rintro l' W83 ⟨v, hsub, hE120, hown⟩
        refine WC.sub _ hsub ?_
        refine wc_join (fun l' w' => ∃ (v : Value), Sub [(0, .slice A n c), (2, .slice none 0 0), (3, v)] l' ∧ Below w.heap.size w w' ∧ (Own encQ w.heap.size 29 2 w' v (((clashRows.take (3 + 1)).filter (badOf s)).map pairOf))) ?_ ?_
        · refine wc_seq ?_
          refine wc_text [(0, .slice A n c), (2, .slice none 0 0), (3, v)] ⟨rfl, rfl, rfl, trivial⟩ [fun v _ => v = .slice A n c, fun v _ => v = .int .i64 (valueOf s 5), fun v _ => v = .bool (decide (valueOf s 5 = 2)), fun v _ => v = .bool (decide (valueOf s 5 = 2)), fun v _ => v = (bif (decide (valueOf s 5 = 2)) then (.slice A n c) else undef), fun v _ => v = (bif (decide (valueOf s 5 = 2)) then (.int .i64 (valueOf s 7)) else undef), fun v _ => v = (bif (decide (valueOf s 5 = 2)) then (.bool (decide (valueOf s 7 = 2))) else undef), fun v _ => v = .bool ((decide (valueOf s 5 = 2)) && (decide (valueOf s 7 = 2)))] [[], [0], [1], [2], [3], [3, 4], [3, 5], [3, 6]] [7] rfl rfl rfl ⟨fun _ _ _ _ h => h, fun _ _ _ _ h => h, fun _ _ _ _ h => h, fun _ _ _ _ h => h, fun _ _ _ _ h => h, fun _ _ _ _ h => h, fun _ _ _ _ h => h, fun _ _ _ _ h => h, trivial⟩ ⟨?_, ?_, ?_, ?_, ?_, ?_, ?_, ?_, trivial⟩ ?_
          · intro W122 hW123
            refine gather_nil ?_
            refine opg_none rfl ?_
            exact op_move rfl rfl ⟨told rfl rfl rfl, (Below.refl _ _)⟩
          · intro W122 hW123
            rintro _ rfl
            refine gather_nil ?_
            refine opg_none rfl ?_
            have hB126 : Below w.heap.size w W122 := (below_step (below_step (Below.refl _ _) hE120) hW123)
            refine op_call ent48 rfl (rvalue_spec (hs.ext (flat_lifts _) hB126)) rfl ?_
            rintro _ W127 ⟨rfl, hE128⟩
            exact ⟨told rfl rfl rfl, hE128⟩
          · intro W122 hW123
            rintro _ rfl
            refine gather_nil ?_
            refine opg_none rfl ?_
            exact op_eql rfl rfl rfl ⟨told rfl rfl rfl, (Below.refl _ _)⟩
          · intro W122 hW123
            rintro _ rfl
            refine gather_nil ?_
            refine opg_none rfl ?_
            exact op_move rfl rfl ⟨told rfl rfl rfl, (Below.refl _ _)⟩
          · intro W122 hW123
            rintro _ rfl
            refine gather_nil ?_
            refine opg_t1 rfl rfl (fun hg129 => ?_) (fun h => by rw [h, cond_false])
            exact op_move rfl rfl ⟨told rfl rfl (by rw [hg129, cond_true]), (Below.refl _ _)⟩
          · intro W122 hW123
            rintro _ rfl
            intro v130 (hv131 : v130 = bif (decide (valueOf s 5 = 2)) then (.slice A n c) else undef)
            refine gather_nil ?_
            refine opg_t1 rfl rfl (fun hg132 => ?_) (fun h => by rw [h, cond_false])
            have hd133 := of_decide_eq_true hg132
            obtain rfl : v130 = .slice A n c := by rw [hv131, hg132, cond_true]
            have hB134 : Below w.heap.size w W122 := (below_step (below_step (Below.refl _ _) hE120) hW123)
            refine op_call ent48 rfl (rvalue_spec (hs.ext (flat_lifts _) hB134)) rfl ?_
            rintro _ W135 ⟨rfl, hE136⟩
            exact ⟨told rfl rfl (by rw [hg132, cond_true]), hE136⟩
          · intro W122 hW123
            rintro _ rfl
            intro v137 (hv138 : v137 = bif (decide (valueOf s 5 = 2)) then (.int .i64 (valueOf s 7)) else undef)
            refine gather_nil ?_
            refine opg_t1 rfl rfl (fun hg139 => ?_) (fun h => by rw [h, cond_false])
            have hd140 := of_decide_eq_true hg139
            obtain rfl : v137 = .int .i64 (valueOf s 7) := by rw [hv138, hg139, cond_true]
            exact op_eql rfl rfl rfl ⟨told rfl rfl (by rw [hg139, cond_true]), (Below.refl _ _)⟩
          · intro W122 hW123
            rintro _ rfl
            intro v141 (hv142 : v141 = bif (decide (valueOf s 5 = 2)) then (.bool (decide (valueOf s 7 = 2))) else undef)
            refine gather_nil ?_
            refine opg_none rfl ?_
            exact op_and rfl rfl rfl (fun h => by rw [hv142, h, cond_true]) rfl ⟨told rfl rfl rfl, (Below.refl _ _)⟩
          intro W143 hW144
          rintro _ rfl
          refine gather_nil ?_
          refine (then_norm ?_)
          refine wc_cond (b := (decide (valueOf s 5 = 2)) && (decide (valueOf s 7 = 2))) rfl (fun hc145 => ?_) (fun hc145 => ?_)
          · refine wc_region ?_
            refine wl_op rfl (op_move rfl rfl ?_)
            refine wl_op rfl (op_build (v := .agg #[.int .i64 5, .int .i64 7]) rfl (fun w => by kernel_rfl) rfl ?_)
            refine wl_op rfl (op_buildSlice (cs := #[.int .i64 5, .int .i64 7]) (e := 29) rfl (fun w => by kernel_rfl) rfl ?_)
            intro W146 b147 hN148
            have hb149 : W146.heap[b147]? = some (.cells #[.int .i64 5, .int .i64 7] 29 (0, 0)) := hN148.blk
            have hB155 : Below w.heap.size w W146 := (below_new (below_step (below_step (Below.refl _ _) hE120) hW144) hN148)
            refine wl_op rfl (op_appendP (enc := encQ) (5, 7) rfl rfl app25 rfl rfl (Own.ext (Own.ext hown hW144) hN148.ext) (cells_blk hb149) rfl rfl (by first | (simp only [List.length_nil]; omega) | (have := clash_le s (0 + 1); omega) | (have := clash_le s (1 + 1); omega) | (have := clash_le s (2 + 1); omega) | (have := clash_le s (3 + 1); omega) | (have := clash_le s (4 + 1); omega) | (have := clash_le s (5 + 1); omega) | (have := clash_le s (6 + 1); omega)) (by first | (simp only [List.length_nil]; omega) | (have := clash_le s (0 + 1); omega) | (have := clash_le s (1 + 1); omega) | (have := clash_le s (2 + 1); omega) | (have := clash_le s (3 + 1); omega) | (have := clash_le s (4 + 1); omega) | (have := clash_le s (5 + 1); omega) | (have := clash_le s (6 + 1); omega)) hB155.size rfl ?_)
            intro v150 W151 ho152 hg153 hob154
            refine wl_op rfl (op_assign rfl rfl ?_)
            refine (wl_done (then_norm ?_))
            have hb : badOf s (⟨5, 7, bothB 2 2⟩) = true := hc145
            have hB156 : Below w.heap.size w W151 := (below_grown hB155 (Own.ext (Own.ext hown hW144) hN148.ext) hg153 (Nat.le_refl _))
            exact ⟨v150, ⟨rfl, rfl, rfl, trivial⟩, hB156, (by rw [take_filter_t (rfl : clashRows[3]? = some _) hb, List.map_append]; exact ho152)⟩
          · refine wc_skip ?_
            refine (then_norm ?_)
            have hb : badOf s (⟨5, 7, bothB 2 2⟩) = false := hc145
            have hB157 : Below w.heap.size w W143 := (below_step (below_step (Below.refl _ _) hE120) hW144)
            exact ⟨v, ⟨rfl, rfl, rfl, trivial⟩, hB157, (by rw [take_filter_f (rfl : clashRows[3]? = some _) hb]; exact (Own.ext hown hW144))⟩
        · rintro l' W121 ⟨v, hsub, hE158, hown⟩
          refine WC.sub _ hsub ?_
          refine wc_join (fun l' w' => ∃ (v : Value), Sub [(0, .slice A n c), (2, .slice none 0 0), (3, v)] l' ∧ Below w.heap.size w w' ∧ (Own encQ w.heap.size 29 2 w' v (((clashRows.take (4 + 1)).filter (badOf s)).map pairOf))) ?_ ?_
          · refine wc_seq ?_
            refine wc_text [(0, .slice A n c), (2, .slice none 0 0), (3, v)] ⟨rfl, rfl, rfl, trivial⟩ [fun v _ => v = .slice A n c, fun v _ => v = .int .i64 (valueOf s 8), fun v _ => v = .bool (decide (valueOf s 8 = 3)), fun v _ => v = .bool (decide (valueOf s 8 = 3)), fun v _ => v = (bif (decide (valueOf s 8 = 3)) then (.slice A n c) else undef), fun v _ => v = (bif (decide (valueOf s 8 = 3)) then (.int .i64 (valueOf s 11)) else undef), fun v _ => v = (bif (decide (valueOf s 8 = 3)) then (.bool (!decide (valueOf s 11 = 1))) else undef), fun v _ => v = .bool ((decide (valueOf s 8 = 3)) && (!decide (valueOf s 11 = 1)))] [[], [0], [1], [2], [3], [3, 4], [3, 5], [3, 6]] [7] rfl rfl rfl ⟨fun _ _ _ _ h => h, fun _ _ _ _ h => h, fun _ _ _ _ h => h, fun _ _ _ _ h => h, fun _ _ _ _ h => h, fun _ _ _ _ h => h, fun _ _ _ _ h => h, fun _ _ _ _ h => h, trivial⟩ ⟨?_, ?_, ?_, ?_, ?_, ?_, ?_, ?_, trivial⟩ ?_
            · intro W160 hW161
              refine gather_nil ?_
              refine opg_none rfl ?_
              exact op_move rfl rfl ⟨told rfl rfl rfl, (Below.refl _ _)⟩
            · intro W160 hW161
              rintro _ rfl
              refine gather_nil ?_
              refine opg_none rfl ?_
              have hB164 : Below w.heap.size w W160 := (below_step (below_step (Below.refl _ _) hE158) hW161)
              refine op_call ent48 rfl (rvalue_spec (hs.ext (flat_lifts _) hB164)) rfl ?_
              rintro _ W165 ⟨rfl, hE166⟩
              exact ⟨told rfl rfl rfl, hE166⟩
            · intro W160 hW161
              rintro _ rfl
              refine gather_nil ?_
              refine opg_none rfl ?_
              exact op_eql rfl rfl rfl ⟨told rfl rfl rfl, (Below.refl _ _)⟩
            · intro W160 hW161
              rintro _ rfl
              refine gather_nil ?_
              refine opg_none rfl ?_
              exact op_move rfl rfl ⟨told rfl rfl rfl, (Below.refl _ _)⟩
            · intro W160 hW161
              rintro _ rfl
              refine gather_nil ?_
              refine opg_t1 rfl rfl (fun hg167 => ?_) (fun h => by rw [h, cond_false])
              exact op_move rfl rfl ⟨told rfl rfl (by rw [hg167, cond_true]), (Below.refl _ _)⟩
            · intro W160 hW161
              rintro _ rfl
              intro v168 (hv169 : v168 = bif (decide (valueOf s 8 = 3)) then (.slice A n c) else undef)
              refine gather_nil ?_
              refine opg_t1 rfl rfl (fun hg170 => ?_) (fun h => by rw [h, cond_false])
              have hd171 := of_decide_eq_true hg170
              obtain rfl : v168 = .slice A n c := by rw [hv169, hg170, cond_true]
              have hB172 : Below w.heap.size w W160 := (below_step (below_step (Below.refl _ _) hE158) hW161)
              refine op_call ent48 rfl (rvalue_spec (hs.ext (flat_lifts _) hB172)) rfl ?_
              rintro _ W173 ⟨rfl, hE174⟩
              exact ⟨told rfl rfl (by rw [hg170, cond_true]), hE174⟩
            · intro W160 hW161
              rintro _ rfl
              intro v175 (hv176 : v175 = bif (decide (valueOf s 8 = 3)) then (.int .i64 (valueOf s 11)) else undef)
              refine gather_nil ?_
              refine opg_t1 rfl rfl (fun hg177 => ?_) (fun h => by rw [h, cond_false])
              have hd178 := of_decide_eq_true hg177
              obtain rfl : v175 = .int .i64 (valueOf s 11) := by rw [hv176, hg177, cond_true]
              exact op_neq rfl rfl rfl ⟨told rfl rfl (by rw [hg177, cond_true]), (Below.refl _ _)⟩
            · intro W160 hW161
              rintro _ rfl
              intro v179 (hv180 : v179 = bif (decide (valueOf s 8 = 3)) then (.bool (!decide (valueOf s 11 = 1))) else undef)
              refine gather_nil ?_
              refine opg_none rfl ?_
              exact op_and rfl rfl rfl (fun h => by rw [hv180, h, cond_true]) rfl ⟨told rfl rfl rfl, (Below.refl _ _)⟩
            intro W181 hW182
            rintro _ rfl
            refine gather_nil ?_
            refine (then_norm ?_)
            refine wc_cond (b := (decide (valueOf s 8 = 3)) && (!decide (valueOf s 11 = 1))) rfl (fun hc183 => ?_) (fun hc183 => ?_)
            · refine wc_region ?_
              refine wl_op rfl (op_move rfl rfl ?_)
              refine wl_op rfl (op_build (v := .agg #[.int .i64 8, .int .i64 11]) rfl (fun w => by kernel_rfl) rfl ?_)
              refine wl_op rfl (op_buildSlice (cs := #[.int .i64 8, .int .i64 11]) (e := 29) rfl (fun w => by kernel_rfl) rfl ?_)
              intro W184 b185 hN186
              have hb187 : W184.heap[b185]? = some (.cells #[.int .i64 8, .int .i64 11] 29 (0, 0)) := hN186.blk
              have hB193 : Below w.heap.size w W184 := (below_new (below_step (below_step (Below.refl _ _) hE158) hW182) hN186)
              refine wl_op rfl (op_appendP (enc := encQ) (8, 11) rfl rfl app25 rfl rfl (Own.ext (Own.ext hown hW182) hN186.ext) (cells_blk hb187) rfl rfl (by first | (simp only [List.length_nil]; omega) | (have := clash_le s (0 + 1); omega) | (have := clash_le s (1 + 1); omega) | (have := clash_le s (2 + 1); omega) | (have := clash_le s (3 + 1); omega) | (have := clash_le s (4 + 1); omega) | (have := clash_le s (5 + 1); omega) | (have := clash_le s (6 + 1); omega)) (by first | (simp only [List.length_nil]; omega) | (have := clash_le s (0 + 1); omega) | (have := clash_le s (1 + 1); omega) | (have := clash_le s (2 + 1); omega) | (have := clash_le s (3 + 1); omega) | (have := clash_le s (4 + 1); omega) | (have := clash_le s (5 + 1); omega) | (have := clash_le s (6 + 1); omega)) hB193.size rfl ?_)
              intro v188 W189 ho190 hg191 hob192
              refine wl_op rfl (op_assign rfl rfl ?_)
              refine (wl_done (then_norm ?_))
              have hb : badOf s (⟨8, 11, fun p q => (decide (p = 3)) && (decide (1 < q))⟩) = true := by rw [bad4 hr]; exact hc183
              have hB194 : Below w.heap.size w W189 := (below_grown hB193 (Own.ext (Own.ext hown hW182) hN186.ext) hg191 (Nat.le_refl _))
              exact ⟨v188, ⟨rfl, rfl, rfl, trivial⟩, hB194, (by rw [take_filter_t (rfl : clashRows[4]? = some _) hb, List.map_append]; exact ho190)⟩
            · refine wc_skip ?_
              refine (then_norm ?_)
              have hb : badOf s (⟨8, 11, fun p q => (decide (p = 3)) && (decide (1 < q))⟩) = false := by rw [bad4 hr]; exact hc183
              have hB195 : Below w.heap.size w W181 := (below_step (below_step (Below.refl _ _) hE158) hW182)
              exact ⟨v, ⟨rfl, rfl, rfl, trivial⟩, hB195, (by rw [take_filter_f (rfl : clashRows[4]? = some _) hb]; exact (Own.ext hown hW182))⟩
          · rintro l' W159 ⟨v, hsub, hE196, hown⟩
            refine WC.sub _ hsub ?_
            refine wc_join (fun l' w' => ∃ (v : Value), Sub [(0, .slice A n c), (2, .slice none 0 0), (3, v)] l' ∧ Below w.heap.size w w' ∧ (Own encQ w.heap.size 29 2 w' v (((clashRows.take (5 + 1)).filter (badOf s)).map pairOf))) ?_ ?_
            · refine wc_seq ?_
              refine wc_text [(0, .slice A n c), (2, .slice none 0 0), (3, v)] ⟨rfl, rfl, rfl, trivial⟩ [fun v _ => v = .slice A n c, fun v _ => v = .int .i64 (valueOf s 9), fun v _ => v = .bool (decide (valueOf s 9 ≤ 2)), fun v _ => v = .bool (decide (valueOf s 9 ≤ 2)), fun v _ => v = (bif (decide (valueOf s 9 ≤ 2)) then (.slice A n c) else undef), fun v _ => v = (bif (decide (valueOf s 9 ≤ 2)) then (.int .i64 (valueOf s 11)) else undef), fun v _ => v = (bif (decide (valueOf s 9 ≤ 2)) then (.bool (decide (valueOf s 11 = 3))) else undef), fun v _ => v = .bool ((decide (valueOf s 9 ≤ 2)) && (decide (valueOf s 11 = 3)))] [[], [0], [1], [2], [3], [3, 4], [3, 5], [3, 6]] [7] rfl rfl rfl ⟨fun _ _ _ _ h => h, fun _ _ _ _ h => h, fun _ _ _ _ h => h, fun _ _ _ _ h => h, fun _ _ _ _ h => h, fun _ _ _ _ h => h, fun _ _ _ _ h => h, fun _ _ _ _ h => h, trivial⟩ ⟨?_, ?_, ?_, ?_, ?_, ?_, ?_, ?_, trivial⟩ ?_
              · intro W198 hW199
                refine gather_nil ?_
                refine opg_none rfl ?_
                exact op_move rfl rfl ⟨told rfl rfl rfl, (Below.refl _ _)⟩
              · intro W198 hW199
                rintro _ rfl
                refine gather_nil ?_
                refine opg_none rfl ?_
                have hB202 : Below w.heap.size w W198 := (below_step (below_step (Below.refl _ _) hE196) hW199)
                refine op_call ent48 rfl (rvalue_spec (hs.ext (flat_lifts _) hB202)) rfl ?_
                rintro _ W203 ⟨rfl, hE204⟩
                exact ⟨told rfl rfl rfl, hE204⟩
              · intro W198 hW199
                rintro _ rfl
                refine gather_nil ?_
                refine opg_none rfl ?_
                exact op_leq rfl rfl rfl ⟨told rfl rfl rfl, (Below.refl _ _)⟩
              · intro W198 hW199
                rintro _ rfl
                refine gather_nil ?_
                refine opg_none rfl ?_
                exact op_move rfl rfl ⟨told rfl rfl rfl, (Below.refl _ _)⟩
              · intro W198 hW199
                rintro _ rfl
                refine gather_nil ?_
                refine opg_t1 rfl rfl (fun hg205 => ?_) (fun h => by rw [h, cond_false])
                exact op_move rfl rfl ⟨told rfl rfl (by rw [hg205, cond_true]), (Below.refl _ _)⟩
              · intro W198 hW199
                rintro _ rfl
                intro v206 (hv207 : v206 = bif (decide (valueOf s 9 ≤ 2)) then (.slice A n c) else undef)
                refine gather_nil ?_
                refine opg_t1 rfl rfl (fun hg208 => ?_) (fun h => by rw [h, cond_false])
                have hd209 := of_decide_eq_true hg208
                obtain rfl : v206 = .slice A n c := by rw [hv207, hg208, cond_true]
                have hB210 : Below w.heap.size w W198 := (below_step (below_step (Below.refl _ _) hE196) hW199)
                refine op_call ent48 rfl (rvalue_spec (hs.ext (flat_lifts _) hB210)) rfl ?_
                rintro _ W211 ⟨rfl, hE212⟩
                exact ⟨told rfl rfl (by rw [hg208, cond_true]), hE212⟩
              · intro W198 hW199
                rintro _ rfl
                intro v213 (hv214 : v213 = bif (decide (valueOf s 9 ≤ 2)) then (.int .i64 (valueOf s 11)) else undef)
                refine gather_nil ?_
                refine opg_t1 rfl rfl (fun hg215 => ?_) (fun h => by rw [h, cond_false])
                have hd216 := of_decide_eq_true hg215
                obtain rfl : v213 = .int .i64 (valueOf s 11) := by rw [hv214, hg215, cond_true]
                exact op_eql rfl rfl rfl ⟨told rfl rfl (by rw [hg215, cond_true]), (Below.refl _ _)⟩
              · intro W198 hW199
                rintro _ rfl
                intro v217 (hv218 : v217 = bif (decide (valueOf s 9 ≤ 2)) then (.bool (decide (valueOf s 11 = 3))) else undef)
                refine gather_nil ?_
                refine opg_none rfl ?_
                exact op_and rfl rfl rfl (fun h => by rw [hv218, h, cond_true]) rfl ⟨told rfl rfl rfl, (Below.refl _ _)⟩
              intro W219 hW220
              rintro _ rfl
              refine gather_nil ?_
              refine (then_norm ?_)
              refine wc_cond (b := (decide (valueOf s 9 ≤ 2)) && (decide (valueOf s 11 = 3))) rfl (fun hc221 => ?_) (fun hc221 => ?_)
              · refine wc_region ?_
                refine wl_op rfl (op_move rfl rfl ?_)
                refine wl_op rfl (op_build (v := .agg #[.int .i64 9, .int .i64 11]) rfl (fun w => by kernel_rfl) rfl ?_)
                refine wl_op rfl (op_buildSlice (cs := #[.int .i64 9, .int .i64 11]) (e := 29) rfl (fun w => by kernel_rfl) rfl ?_)
                intro W222 b223 hN224
                have hb225 : W222.heap[b223]? = some (.cells #[.int .i64 9, .int .i64 11] 29 (0, 0)) := hN224.blk
                have hB231 : Below w.heap.size w W222 := (below_new (below_step (below_step (Below.refl _ _) hE196) hW220) hN224)
                refine wl_op rfl (op_appendP (enc := encQ) (9, 11) rfl rfl app25 rfl rfl (Own.ext (Own.ext hown hW220) hN224.ext) (cells_blk hb225) rfl rfl (by first | (simp only [List.length_nil]; omega) | (have := clash_le s (0 + 1); omega) | (have := clash_le s (1 + 1); omega) | (have := clash_le s (2 + 1); omega) | (have := clash_le s (3 + 1); omega) | (have := clash_le s (4 + 1); omega) | (have := clash_le s (5 + 1); omega) | (have := clash_le s (6 + 1); omega)) (by first | (simp only [List.length_nil]; omega) | (have := clash_le s (0 + 1); omega) | (have := clash_le s (1 + 1); omega) | (have := clash_le s (2 + 1); omega) | (have := clash_le s (3 + 1); omega) | (have := clash_le s (4 + 1); omega) | (have := clash_le s (5 + 1); omega) | (have := clash_le s (6 + 1); omega)) hB231.size rfl ?_)
                intro v226 W227 ho228 hg229 hob230
                refine wl_op rfl (op_assign rfl rfl ?_)
                refine (wl_done (then_norm ?_))
                have hb : badOf s (⟨9, 11, fun p q => (decide (p < 3)) && (decide (q = 3))⟩) = true := by rw [bad5]; exact hc221
                have hB232 : Below w.heap.size w W227 := (below_grown hB231 (Own.ext (Own.ext hown hW220) hN224.ext) hg229 (Nat.le_refl _))
                exact ⟨v226, ⟨rfl, rfl, rfl, trivial⟩, hB232, (by rw [take_filter_t (rfl : clashRows[5]? = some _) hb, List.map_append]; exact ho228)⟩
              · refine wc_skip ?_
                refine (then_norm ?_)
                have hb : badOf s (⟨9, 11, fun p q => (decide (p < 3)) && (decide (q = 3))⟩) = false := by rw [bad5]; exact hc221
                have hB233 : Below w.heap.size w W219 := (below_step (below_step (Below.refl _ _) hE196) hW220)
                exact ⟨v, ⟨rfl, rfl, rfl, trivial⟩, hB233, (by rw [take_filter_f (rfl : clashRows[5]? = some _) hb]; exact (Own.ext hown hW220))⟩
            · rintro l' W197 ⟨v, hsub, hE234, hown⟩
              refine WC.sub _ hsub ?_
              refine wc_join (fun l' w' => ∃ (v : Value), Sub [(2, .slice none 0 0), (3, v)] l' ∧ Below w.heap.size w w' ∧ (Own encQ w.heap.size 29 2 w' v (((clashRows.take (6 + 1)).filter (badOf s)).map pairOf))) ?_ ?_
              · refine wc_seq ?_
                refine wc_text [(0, .slice A n c), (2, .slice none 0 0), (3, v)] ⟨rfl, rfl, rfl, trivial⟩ [fun v _ => v = .slice A n c, fun v _ => v = .int .i64 (valueOf s 10), fun v _ => v = .bool (decide (valueOf s 10 = 0)), fun v _ => v = .bool (decide (valueOf s 10 = 0)), fun v _ => v = (bif (decide (valueOf s 10 = 0)) then (.slice A n c) else undef), fun v _ => v = (bif (decide (valueOf s 10 = 0)) then (.int .i64 (valueOf s 13)) else undef), fun v _ => v = (bif (decide (valueOf s 10 = 0)) then (.bool (decide (valueOf s 13 = 4))) else undef), fun v _ => v = .bool ((decide (valueOf s 10 = 0)) && (decide (valueOf s 13 = 4)))] [[], [0], [1], [2], [3], [3, 4], [3, 5], [3, 6]] [7] rfl rfl rfl ⟨fun _ _ _ _ h => h, fun _ _ _ _ h => h, fun _ _ _ _ h => h, fun _ _ _ _ h => h, fun _ _ _ _ h => h, fun _ _ _ _ h => h, fun _ _ _ _ h => h, fun _ _ _ _ h => h, trivial⟩ ⟨?_, ?_, ?_, ?_, ?_, ?_, ?_, ?_, trivial⟩ ?_
                · intro W236 hW237
                  refine gather_nil ?_
                  refine opg_none rfl ?_
                  exact op_move rfl rfl ⟨told rfl rfl rfl, (Below.refl _ _)⟩
                · intro W236 hW237
                  rintro _ rfl
                  refine gather_nil ?_
                  refine opg_none rfl ?_
                  have hB240 : Below w.heap.size w W236 := (below_step (below_step (Below.refl _ _) hE234) hW237)
                  refine op_call ent48 rfl (rvalue_spec (hs.ext (flat_lifts _) hB240)) rfl ?_
                  rintro _ W241 ⟨rfl, hE242⟩
                  exact ⟨told rfl rfl rfl, hE242⟩
                · intro W236 hW237
                  rintro _ rfl
                  refine gather_nil ?_
                  refine opg_none rfl ?_
                  exact op_eql rfl rfl rfl ⟨told rfl rfl rfl, (Below.refl _ _)⟩
                · intro W236 hW237
                  rintro _ rfl
                  refine gather_nil ?_
                  refine opg_none rfl ?_
                  exact op_move rfl rfl ⟨told rfl rfl rfl, (Below.refl _ _)⟩
                · intro W236 hW237
                  rintro _ rfl
                  refine gather_nil ?_
                  refine opg_t1 rfl rfl (fun hg243 => ?_) (fun h => by rw [h, cond_false])
                  exact op_move rfl rfl ⟨told rfl rfl (by rw [hg243, cond_true]), (Below.refl _ _)⟩
                · intro W236 hW237
                  rintro _ rfl
                  intro v244 (hv245 : v244 = bif (decide (valueOf s 10 = 0)) then (.slice A n c) else undef)
                  refine gather_nil ?_
                  refine opg_t1 rfl rfl (fun hg246 => ?_) (fun h => by rw [h, cond_false])
                  have hd247 := of_decide_eq_true hg246
                  obtain rfl : v244 = .slice A n c := by rw [hv245, hg246, cond_true]
                  have hB248 : Below w.heap.size w W236 := (below_step (below_step (Below.refl _ _) hE234) hW237)
                  refine op_call ent48 rfl (rvalue_spec (hs.ext (flat_lifts _) hB248)) rfl ?_
                  rintro _ W249 ⟨rfl, hE250⟩
                  exact ⟨told rfl rfl (by rw [hg246, cond_true]), hE250⟩
                · intro W236 hW237
                  rintro _ rfl
                  intro v251 (hv252 : v251 = bif (decide (valueOf s 10 = 0)) then (.int .i64 (valueOf s 13)) else undef)
                  refine gather_nil ?_
                  refine opg_t1 rfl rfl (fun hg253 => ?_) (fun h => by rw [h, cond_false])
                  have hd254 := of_decide_eq_true hg253
                  obtain rfl : v251 = .int .i64 (valueOf s 13) := by rw [hv252, hg253, cond_true]
                  exact op_eql rfl rfl rfl ⟨told rfl rfl (by rw [hg253, cond_true]), (Below.refl _ _)⟩
                · intro W236 hW237
                  rintro _ rfl
                  intro v255 (hv256 : v255 = bif (decide (valueOf s 10 = 0)) then (.bool (decide (valueOf s 13 = 4))) else undef)
                  refine gather_nil ?_
                  refine opg_none rfl ?_
                  exact op_and rfl rfl rfl (fun h => by rw [hv256, h, cond_true]) rfl ⟨told rfl rfl rfl, (Below.refl _ _)⟩
                intro W257 hW258
                rintro _ rfl
                refine gather_nil ?_
                refine (then_norm ?_)
                refine wc_cond (b := (decide (valueOf s 10 = 0)) && (decide (valueOf s 13 = 4))) rfl (fun hc259 => ?_) (fun hc259 => ?_)
                · refine wc_region ?_
                  refine wl_op rfl (op_move rfl rfl ?_)
                  refine wl_op rfl (op_build (v := .agg #[.int .i64 10, .int .i64 13]) rfl (fun w => by kernel_rfl) rfl ?_)
                  refine wl_op rfl (op_buildSlice (cs := #[.int .i64 10, .int .i64 13]) (e := 29) rfl (fun w => by kernel_rfl) rfl ?_)
                  intro W260 b261 hN262
                  have hb263 : W260.heap[b261]? = some (.cells #[.int .i64 10, .int .i64 13] 29 (0, 0)) := hN262.blk
                  have hB269 : Below w.heap.size w W260 := (below_new (below_step (below_step (Below.refl _ _) hE234) hW258) hN262)
                  refine wl_op rfl (op_appendP (enc := encQ) (10, 13) rfl rfl app25 rfl rfl (Own.ext (Own.ext hown hW258) hN262.ext) (cells_blk hb263) rfl rfl (by first | (simp only [List.length_nil]; omega) | (have := clash_le s (0 + 1); omega) | (have := clash_le s (1 + 1); omega) | (have := clash_le s (2 + 1); omega) | (have := clash_le s (3 + 1); omega) | (have := clash_le s (4 + 1); omega) | (have := clash_le s (5 + 1); omega) | (have := clash_le s (6 + 1); omega)) (by first | (simp only [List.length_nil]; omega) | (have := clash_le s (0 + 1); omega) | (have := clash_le s (1 + 1); omega) | (have := clash_le s (2 + 1); omega) | (have := clash_le s (3 + 1); omega) | (have := clash_le s (4 + 1); omega) | (have := clash_le s (5 + 1); omega) | (have := clash_le s (6 + 1); omega)) hB269.size rfl ?_)
                  intro v264 W265 ho266 hg267 hob268
                  refine wl_op rfl (op_assign rfl rfl ?_)
                  refine (wl_done (then_norm ?_))
                  have hb : badOf s (⟨10, 13, bothB 0 4⟩) = true := hc259
                  have hB270 : Below w.heap.size w W265 := (below_grown hB269 (Own.ext (Own.ext hown hW258) hN262.ext) hg267 (Nat.le_refl _))
                  exact ⟨v264, ⟨rfl, rfl, trivial⟩, hB270, (by rw [take_filter_t (rfl : clashRows[6]? = some _) hb, List.map_append]; exact ho266)⟩
                · refine wc_skip ?_
                  refine (then_norm ?_)
                  have hb : badOf s (⟨10, 13, bothB 0 4⟩) = false := hc259
                  have hB271 : Below w.heap.size w W257 := (below_step (below_step (Below.refl _ _) hE234) hW258)
                  exact ⟨v, ⟨rfl, rfl, trivial⟩, hB271, (by rw [take_filter_f (rfl : clashRows[6]? = some _) hb]; exact (Own.ext hown hW258))⟩
              · rintro l' W235 ⟨v, hsub, hE272, hown⟩
                refine WC.sub _ hsub ?_
                refine wc_seq ?_
                refine wc_region ?_
                refine wl_op rfl (op_move rfl rfl ?_)
                refine wl_op rfl (op_assign rfl rfl ?_)
                refine (wl_done (then_norm ?_))
                refine wc_ret ?_
                have hB273 : Below w.heap.size w W235 := (below_step (Below.refl _ _) hE272)
                obtain ⟨A274, n275, c276, hv277, hr278, hn279, hnc280⟩ := rd_of_OwnC hown (fun _ => rfl) (by have := clash_le s (6 + 1); omega)
                subst hv277
                refine ⟨[_], ⟨rfl, trivial⟩, ⟨A274, n275, c276, ?_, hr278, hB273⟩⟩
                exact rfl

end Go.Eng
