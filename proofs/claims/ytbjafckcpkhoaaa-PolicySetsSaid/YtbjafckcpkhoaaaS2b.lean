/- Lemmas for a law of the seat: what functions of the program do, each stated as a contract of its own (S2b). -/
import Derived.Test.YtbjafckcpkhoaaaS2
import Derived.Test.YtbjafckcpkhoaaaChecked
import Derived.Test.YtbjafckcpkhoaaaEng
set_option linter.unusedVariables false
set_option maxRecDepth 100000
namespace Go.Eng
open Go.RowKit Go.Shelf Go.Proofs Pol



theorem bad4 {s : List Pol} (h : 1 ≤ valueOf s 11) : badOf s ⟨8, 11, fun p q => (decide (p = 3)) && (decide (1 < q))⟩ = ((decide (valueOf s 8 = 3)) && (!decide (valueOf s 11 = 1))) := by
  show ((decide (valueOf s 8 = 3)) && (decide (1 < valueOf s 11))) = _
  congr 1
  rw [Bool.eq_iff_iff]; simp; omega
theorem bad5 {s : List Pol} : badOf s ⟨9, 11, fun p q => (decide (p < 3)) && (decide (q = 3))⟩ = ((decide (valueOf s 9 ≤ 2)) && (decide (valueOf s 11 = 3))) := by
  show ((decide (valueOf s 9 < 3)) && (decide (valueOf s 11 = 3))) = _
  congr 1
  rw [Bool.eq_iff_iff]; simp; omega

theorem rclashes_spec {w : World} {A : Option Addr} {n c : Nat} {s : List Pol} (hs : RdP w A n s) (hr : 1 ≤ valueOf s 11) : Ret Try.prog 41 #[.slice A n c] w (fun v w' => ∃ (A1 : Option Addr) (n1 c1 : Nat), v = .slice A1 n1 c1 ∧ RdQ w' A1 n1 (clashList s) ∧ Below w.heap.size w w') := by
  obtain ⟨bs1, os2, hA3, hc4⟩ := hs.flat
  have hln5 := hs.len
  have hbd6 := hs.bd
  have hlen_s := hs.len
  refine ret_of (args := [.slice A n c]) Try.func41 rfl Try.ntmps41 rfl (rs := [.tmp 2]) rfl ?_
  refine wc_seq ?_
  refine wc_region ?_
  refine wl_op rfl (op_assign rfl rfl ?_)
  refine (wl_done (then_norm ?_))
  refine wc_seq ?_
  refine wc_region ?_
  refine wl_op rfl (op_assign rfl rfl ?_)
  refine (wl_done (then_norm ?_))
  refine wc_join (fun l' w' => ∃ (v : Value), Sub [(0, .slice A n c), (2, .slice none 0 0), (3, v)] l' ∧ Below w.heap.size w w' ∧ (Own encQ w.heap.size 29 2 w' v (((clashRows.take (0 + 1)).filter (badOf s)).map pairOf))) ?_ ?_
  · refine wc_seq ?_
    refine wc_text [(0, .slice A n c), (2, .slice none 0 0), (3, .slice none 0 0)] ⟨rfl, rfl, rfl, trivial⟩ [fun v _ => v = .slice A n c, fun v _ => v = .int .i64 (valueOf s 3), fun v _ => v = .bool (decide (valueOf s 3 = 1)), fun v _ => v = .bool (decide (valueOf s 3 = 1)), fun v _ => v = (bif (decide (valueOf s 3 = 1)) then (.slice A n c) else undef), fun v _ => v = (bif (decide (valueOf s 3 = 1)) then (.int .i64 (valueOf s 6)) else undef), fun v _ => v = (bif (decide (valueOf s 3 = 1)) then (.bool (decide (valueOf s 6 = 2))) else undef), fun v _ => v = .bool ((decide (valueOf s 3 = 1)) && (decide (valueOf s 6 = 2)))] [[], [0], [1], [2], [3], [3, 4], [3, 5], [3, 6]] [7] rfl rfl rfl ⟨fun _ _ _ _ h => h, fun _ _ _ _ h => h, fun _ _ _ _ h => h, fun _ _ _ _ h => h, fun _ _ _ _ h => h, fun _ _ _ _ h => h, fun _ _ _ _ h => h, fun _ _ _ _ h => h, trivial⟩ ⟨?_, ?_, ?_, ?_, ?_, ?_, ?_, ?_, trivial⟩ ?_
    · intro W8 hW9
      refine gather_nil ?_
      refine opg_none rfl ?_
      exact op_move rfl rfl ⟨told rfl rfl rfl, (Below.refl _ _)⟩
    · intro W8 hW9
      rintro _ rfl
      refine gather_nil ?_
      refine opg_none rfl ?_
      have hB12 : Below w.heap.size w W8 := (below_step (Below.refl _ _) hW9)
      refine op_call ent48 rfl (rvalue_spec (hs.ext (flat_lifts _) hB12)) rfl ?_
      rintro _ W13 ⟨rfl, hE14⟩
      exact ⟨told rfl rfl rfl, hE14⟩
    · intro W8 hW9
      rintro _ rfl
      refine gather_nil ?_
      refine opg_none rfl ?_
      exact op_eql rfl rfl rfl ⟨told rfl rfl rfl, (Below.refl _ _)⟩
    · intro W8 hW9
      rintro _ rfl
      refine gather_nil ?_
      refine opg_none rfl ?_
      exact op_move rfl rfl ⟨told rfl rfl rfl, (Below.refl _ _)⟩
    · intro W8 hW9
      rintro _ rfl
      refine gather_nil ?_
      refine opg_t1 rfl rfl (fun hg15 => ?_) (fun h => by rw [h, cond_false])
      exact op_move rfl rfl ⟨told rfl rfl (by rw [hg15, cond_true]), (Below.refl _ _)⟩
    · intro W8 hW9
      rintro _ rfl
      intro v16 (hv17 : v16 = bif (decide (valueOf s 3 = 1)) then (.slice A n c) else undef)
      refine gather_nil ?_
      refine opg_t1 rfl rfl (fun hg18 => ?_) (fun h => by rw [h, cond_false])
      have hd19 := of_decide_eq_true hg18
      obtain rfl : v16 = .slice A n c := by rw [hv17, hg18, cond_true]
      have hB20 : Below w.heap.size w W8 := (below_step (Below.refl _ _) hW9)
      refine op_call ent48 rfl (rvalue_spec (hs.ext (flat_lifts _) hB20)) rfl ?_
      rintro _ W21 ⟨rfl, hE22⟩
      exact ⟨told rfl rfl (by rw [hg18, cond_true]), hE22⟩
    · intro W8 hW9
      rintro _ rfl
      intro v23 (hv24 : v23 = bif (decide (valueOf s 3 = 1)) then (.int .i64 (valueOf s 6)) else undef)
      refine gather_nil ?_
      refine opg_t1 rfl rfl (fun hg25 => ?_) (fun h => by rw [h, cond_false])
      have hd26 := of_decide_eq_true hg25
      obtain rfl : v23 = .int .i64 (valueOf s 6) := by rw [hv24, hg25, cond_true]
      exact op_eql rfl rfl rfl ⟨told rfl rfl (by rw [hg25, cond_true]), (Below.refl _ _)⟩
    · intro W8 hW9
      rintro _ rfl
      intro v27 (hv28 : v27 = bif (decide (valueOf s 3 = 1)) then (.bool (decide (valueOf s 6 = 2))) else undef)
      refine gather_nil ?_
      refine opg_none rfl ?_
      exact op_and rfl rfl rfl (fun h => by rw [hv28, h, cond_true]) rfl ⟨told rfl rfl rfl, (Below.refl _ _)⟩
    intro W29 hW30
    rintro _ rfl
    refine gather_nil ?_
    refine (then_norm ?_)
    refine wc_cond (b := (decide (valueOf s 3 = 1)) && (decide (valueOf s 6 = 2))) rfl (fun hc31 => ?_) (fun hc31 => ?_)
    · refine wc_region ?_
      refine wl_op rfl (op_move rfl rfl ?_)
      refine wl_op rfl (op_build (v := .agg #[.int .i64 3, .int .i64 6]) rfl (fun w => by kernel_rfl) rfl ?_)
      refine wl_op rfl (op_buildSlice (cs := #[.int .i64 3, .int .i64 6]) (e := 29) rfl (fun w => by kernel_rfl) rfl ?_)
      intro W32 b33 hN34
      have hb35 : W32.heap[b33]? = some (.cells #[.int .i64 3, .int .i64 6] 29 (0, 0)) := hN34.blk
      have hB41 : Below w.heap.size w W32 := (below_new (below_step (Below.refl _ _) hW30) hN34)
      refine wl_op rfl (op_appendP (enc := encQ) (3, 6) rfl rfl app25 rfl rfl (own_nil encQ w.heap.size 29 2 _) (cells_blk hb35) rfl rfl (by first | (simp only [List.length_nil]; omega) | (have := clash_le s (0 + 1); omega) | (have := clash_le s (1 + 1); omega) | (have := clash_le s (2 + 1); omega) | (have := clash_le s (3 + 1); omega) | (have := clash_le s (4 + 1); omega) | (have := clash_le s (5 + 1); omega) | (have := clash_le s (6 + 1); omega)) (by first | (simp only [List.length_nil]; omega) | (have := clash_le s (0 + 1); omega) | (have := clash_le s (1 + 1); omega) | (have := clash_le s (2 + 1); omega) | (have := clash_le s (3 + 1); omega) | (have := clash_le s (4 + 1); omega) | (have := clash_le s (5 + 1); omega) | (have := clash_le s (6 + 1); omega)) hB41.size rfl ?_)
      intro v36 W37 ho38 hg39 hob40
      simp only [List.nil_append] at ho38
      refine wl_op rfl (op_assign rfl rfl ?_)
      refine (wl_done (then_norm ?_))
      have hb : badOf s (⟨3, 6, bothB 1 2⟩) = true := hc31
      have hB42 : Below w.heap.size w W37 := (below_grown hB41 (own_nil encQ w.heap.size 29 2 _) hg39 (Nat.le_refl _))
      exact ⟨v36, ⟨rfl, rfl, rfl, trivial⟩, hB42, (by rw [take_filter_t (rfl : clashRows[0]? = some _) hb, List.map_append]; exact ho38)⟩
    · refine wc_skip ?_
      refine (then_norm ?_)
      have hb : badOf s (⟨3, 6, bothB 1 2⟩) = false := hc31
      have hB43 : Below w.heap.size w W29 := (below_step (Below.refl _ _) hW30)
      exact ⟨.slice none 0 0, ⟨rfl, rfl, rfl, trivial⟩, hB43, (by rw [take_filter_f (rfl : clashRows[0]? = some _) hb]; exact (own_nil _ _ _ _ _))⟩
  · rintro l' W7 ⟨v, hsub, hE44, hown⟩
    refine WC.sub _ hsub ?_
    refine wc_join (fun l' w' => ∃ (v : Value), Sub [(0, .slice A n c), (2, .slice none 0 0), (3, v)] l' ∧ Below w.heap.size w w' ∧ (Own encQ w.heap.size 29 2 w' v (((clashRows.take (1 + 1)).filter (badOf s)).map pairOf))) ?_ ?_
    · refine wc_seq ?_
      refine wc_text [(0, .slice A n c), (2, .slice none 0 0), (3, v)] ⟨rfl, rfl, rfl, trivial⟩ [fun v _ => v = .slice A n c, fun v _ => v = .int .i64 (valueOf s 4), fun v _ => v = .bool (decide (valueOf s 4 = 2)), fun v _ => v = .bool (decide (valueOf s 4 = 2)), fun v _ => v = (bif (decide (valueOf s 4 = 2)) then (.slice A n c) else undef), fun v _ => v = (bif (decide (valueOf s 4 = 2)) then (.int .i64 (valueOf s 7)) else undef), fun v _ => v = (bif (decide (valueOf s 4 = 2)) then (.bool (decide (valueOf s 7 = 2))) else undef), fun v _ => v = .bool ((decide (valueOf s 4 = 2)) && (decide (valueOf s 7 = 2)))] [[], [0], [1], [2], [3], [3, 4], [3, 5], [3, 6]] [7] rfl rfl rfl ⟨fun _ _ _ _ h => h, fun _ _ _ _ h => h, fun _ _ _ _ h => h, fun _ _ _ _ h => h, fun _ _ _ _ h => h, fun _ _ _ _ h => h, fun _ _ _ _ h => h, fun _ _ _ _ h => h, trivial⟩ ⟨?_, ?_, ?_, ?_, ?_, ?_, ?_, ?_, trivial⟩ ?_
      · intro W46 hW47
        refine gather_nil ?_
        refine opg_none rfl ?_
        exact op_move rfl rfl ⟨told rfl rfl rfl, (Below.refl _ _)⟩
      · intro W46 hW47
        rintro _ rfl
        refine gather_nil ?_
        refine opg_none rfl ?_
        have hB50 : Below w.heap.size w W46 := (below_step (below_step (Below.refl _ _) hE44) hW47)
        refine op_call ent48 rfl (rvalue_spec (hs.ext (flat_lifts _) hB50)) rfl ?_
        rintro _ W51 ⟨rfl, hE52⟩
        exact ⟨told rfl rfl rfl, hE52⟩
      · intro W46 hW47
        rintro _ rfl
        refine gather_nil ?_
        refine opg_none rfl ?_
        exact op_eql rfl rfl rfl ⟨told rfl rfl rfl, (Below.refl _ _)⟩
      · intro W46 hW47
        rintro _ rfl
        refine gather_nil ?_
        refine opg_none rfl ?_
        exact op_move rfl rfl ⟨told rfl rfl rfl, (Below.refl _ _)⟩
      · intro W46 hW47
        rintro _ rfl
        refine gather_nil ?_
        refine opg_t1 rfl rfl (fun hg53 => ?_) (fun h => by rw [h, cond_false])
        exact op_move rfl rfl ⟨told rfl rfl (by rw [hg53, cond_true]), (Below.refl _ _)⟩
      · intro W46 hW47
        rintro _ rfl
        intro v54 (hv55 : v54 = bif (decide (valueOf s 4 = 2)) then (.slice A n c) else undef)
        refine gather_nil ?_
        refine opg_t1 rfl rfl (fun hg56 => ?_) (fun h => by rw [h, cond_false])
        have hd57 := of_decide_eq_true hg56
        obtain rfl : v54 = .slice A n c := by rw [hv55, hg56, cond_true]
        have hB58 : Below w.heap.size w W46 := (below_step (below_step (Below.refl _ _) hE44) hW47)
        refine op_call ent48 rfl (rvalue_spec (hs.ext (flat_lifts _) hB58)) rfl ?_
        rintro _ W59 ⟨rfl, hE60⟩
        exact ⟨told rfl rfl (by rw [hg56, cond_true]), hE60⟩
      · intro W46 hW47
        rintro _ rfl
        intro v61 (hv62 : v61 = bif (decide (valueOf s 4 = 2)) then (.int .i64 (valueOf s 7)) else undef)
        refine gather_nil ?_
        refine opg_t1 rfl rfl (fun hg63 => ?_) (fun h => by rw [h, cond_false])
        have hd64 := of_decide_eq_true hg63
        obtain rfl : v61 = .int .i64 (valueOf s 7) := by rw [hv62, hg63, cond_true]
        exact op_eql rfl rfl rfl ⟨told rfl rfl (by rw [hg63, cond_true]), (Below.refl _ _)⟩
      · intro W46 hW47
        rintro _ rfl
        intro v65 (hv66 : v65 = bif (decide (valueOf s 4 = 2)) then (.bool (decide (valueOf s 7 = 2))) else undef)
        refine gather_nil ?_
        refine opg_none rfl ?_
        exact op_and rfl rfl rfl (fun h => by rw [hv66, h, cond_true]) rfl ⟨told rfl rfl rfl, (Below.refl _ _)⟩
      intro W67 hW68
      rintro _ rfl
      refine gather_nil ?_
      refine (then_norm ?_)
      refine wc_cond (b := (decide (valueOf s 4 = 2)) && (decide (valueOf s 7 = 2))) rfl (fun hc69 => ?_) (fun hc69 => ?_)
      · refine wc_region ?_
        refine wl_op rfl (op_move rfl rfl ?_)
        refine wl_op rfl (op_build (v := .agg #[.int .i64 4, .int .i64 7]) rfl (fun w => by kernel_rfl) rfl ?_)
        refine wl_op rfl (op_buildSlice (cs := #[.int .i64 4, .int .i64 7]) (e := 29) rfl (fun w => by kernel_rfl) rfl ?_)
        intro W70 b71 hN72
        have hb73 : W70.heap[b71]? = some (.cells #[.int .i64 4, .int .i64 7] 29 (0, 0)) := hN72.blk
        have hB79 : Below w.heap.size w W70 := (below_new (below_step (below_step (Below.refl _ _) hE44) hW68) hN72)
        refine wl_op rfl (op_appendP (enc := encQ) (4, 7) rfl rfl app25 rfl rfl (Own.ext (Own.ext hown hW68) hN72.ext) (cells_blk hb73) rfl rfl (by first | (simp only [List.length_nil]; omega) | (have := clash_le s (0 + 1); omega) | (have := clash_le s (1 + 1); omega) | (have := clash_le s (2 + 1); omega) | (have := clash_le s (3 + 1); omega) | (have := clash_le s (4 + 1); omega) | (have := clash_le s (5 + 1); omega) | (have := clash_le s (6 + 1); omega)) (by first | (simp only [List.length_nil]; omega) | (have := clash_le s (0 + 1); omega) | (have := clash_le s (1 + 1); omega) | (have := clash_le s (2 + 1); omega) | (have := clash_le s (3 + 1); omega) | (have := clash_le s (4 + 1); omega) | (have := clash_le s (5 + 1); omega) | (have := clash_le s (6 + 1); omega)) hB79.size rfl ?_)
        intro v74 W75 ho76 hg77 hob78
        refine wl_op rfl (op_assign rfl rfl ?_)
        refine (wl_done (then_norm ?_))
        have hb : badOf s (⟨4, 7, bothB 2 2⟩) = true := hc69
        have hB80 : Below w.heap.size w W75 := (below_grown hB79 (Own.ext (Own.ext hown hW68) hN72.ext) hg77 (Nat.le_refl _))
        exact ⟨v74, ⟨rfl, rfl, rfl, trivial⟩, hB80, (by rw [take_filter_t (rfl : clashRows[1]? = some _) hb, List.map_append]; exact ho76)⟩
      · refine wc_skip ?_
        refine (then_norm ?_)
        have hb : badOf s (⟨4, 7, bothB 2 2⟩) = false := hc69
        have hB81 : Below w.heap.size w W67 := (below_step (below_step (Below.refl _ _) hE44) hW68)
        exact ⟨v, ⟨rfl, rfl, rfl, trivial⟩, hB81, (by rw [take_filter_f (rfl : clashRows[1]? = some _) hb]; exact (Own.ext hown hW68))⟩
    · rintro l' W45 ⟨v, hsub, hE82, hown⟩
      refine WC.sub _ hsub ?_
      refine wc_join (fun l' w' => ∃ (v : Value), Sub [(0, .slice A n c), (2, .slice none 0 0), (3, v)] l' ∧ Below w.heap.size w w' ∧ (Own encQ w.heap.size 29 2 w' v (((clashRows.take (2 + 1)).filter (badOf s)).map pairOf))) ?_ ?_
      · refine wc_seq ?_
        refine wc_text [(0, .slice A n c), (2, .slice none 0 0), (3, v)] ⟨rfl, rfl, rfl, trivial⟩ [fun v _ => v = .slice A n c, fun v _ => v = .int .i64 (valueOf s 5), fun v _ => v = .bool (decide (valueOf s 5 = 2)), fun v _ => v = .bool (decide (valueOf s 5 = 2)), fun v _ => v = (bif (decide (valueOf s 5 = 2)) then (.slice A n c) else undef), fun v _ => v = (bif (decide (valueOf s 5 = 2)) then (.int .i64 (valueOf s 6)) else undef), fun v _ => v = (bif (decide (valueOf s 5 = 2)) then (.bool (decide (valueOf s 6 = 1))) else undef), fun v _ => v = .bool ((decide (valueOf s 5 = 2)) && (decide (valueOf s 6 = 1)))] [[], [0], [1], [2], [3], [3, 4], [3, 5], [3, 6]] [7] rfl rfl rfl ⟨fun _ _ _ _ h => h, fun _ _ _ _ h => h, fun _ _ _ _ h => h, fun _ _ _ _ h => h, fun _ _ _ _ h => h, fun _ _ _ _ h => h, fun _ _ _ _ h => h, fun _ _ _ _ h => h, trivial⟩ ⟨?_, ?_, ?_, ?_, ?_, ?_, ?_, ?_, trivial⟩ ?_
        · intro W84 hW85
          refine gather_nil ?_
          refine opg_none rfl ?_
          exact op_move rfl rfl ⟨told rfl rfl rfl, (Below.refl _ _)⟩
        · intro W84 hW85
          rintro _ rfl
          refine gather_nil ?_
          refine opg_none rfl ?_
          have hB88 : Below w.heap.size w W84 := (below_step (below_step (Below.refl _ _) hE82) hW85)
          refine op_call ent48 rfl (rvalue_spec (hs.ext (flat_lifts _) hB88)) rfl ?_
          rintro _ W89 ⟨rfl, hE90⟩
          exact ⟨told rfl rfl rfl, hE90⟩
        · intro W84 hW85
          rintro _ rfl
          refine gather_nil ?_
          refine opg_none rfl ?_
          exact op_eql rfl rfl rfl ⟨told rfl rfl rfl, (Below.refl _ _)⟩
        · intro W84 hW85
          rintro _ rfl
          refine gather_nil ?_
          refine opg_none rfl ?_
          exact op_move rfl rfl ⟨told rfl rfl rfl, (Below.refl _ _)⟩
        · intro W84 hW85
          rintro _ rfl
          refine gather_nil ?_
          refine opg_t1 rfl rfl (fun hg91 => ?_) (fun h => by rw [h, cond_false])
          exact op_move rfl rfl ⟨told rfl rfl (by rw [hg91, cond_true]), (Below.refl _ _)⟩
        · intro W84 hW85
          rintro _ rfl
          intro v92 (hv93 : v92 = bif (decide (valueOf s 5 = 2)) then (.slice A n c) else undef)
          refine gather_nil ?_
          refine opg_t1 rfl rfl (fun hg94 => ?_) (fun h => by rw [h, cond_false])
          have hd95 := of_decide_eq_true hg94
          obtain rfl : v92 = .slice A n c := by rw [hv93, hg94, cond_true]
          have hB96 : Below w.heap.size w W84 := (below_step (below_step (Below.refl _ _) hE82) hW85)
          refine op_call ent48 rfl (rvalue_spec (hs.ext (flat_lifts _) hB96)) rfl ?_
          rintro _ W97 ⟨rfl, hE98⟩
          exact ⟨told rfl rfl (by rw [hg94, cond_true]), hE98⟩
        · intro W84 hW85
          rintro _ rfl
          intro v99 (hv100 : v99 = bif (decide (valueOf s 5 = 2)) then (.int .i64 (valueOf s 6)) else undef)
          refine gather_nil ?_
          refine opg_t1 rfl rfl (fun hg101 => ?_) (fun h => by rw [h, cond_false])
          have hd102 := of_decide_eq_true hg101
          obtain rfl : v99 = .int .i64 (valueOf s 6) := by rw [hv100, hg101, cond_true]
          exact op_eql rfl rfl rfl ⟨told rfl rfl (by rw [hg101, cond_true]), (Below.refl _ _)⟩
        · intro W84 hW85
          rintro _ rfl
          intro v103 (hv104 : v103 = bif (decide (valueOf s 5 = 2)) then (.bool (decide (valueOf s 6 = 1))) else undef)
          refine gather_nil ?_
          refine opg_none rfl ?_
          exact op_and rfl rfl rfl (fun h => by rw [hv104, h, cond_true]) rfl ⟨told rfl rfl rfl, (Below.refl _ _)⟩
        intro W105 hW106
        rintro _ rfl
        refine gather_nil ?_
        refine (then_norm ?_)
        refine wc_cond (b := (decide (valueOf s 5 = 2)) && (decide (valueOf s 6 = 1))) rfl (fun hc107 => ?_) (fun hc107 => ?_)
        · refine wc_region ?_
          refine wl_op rfl (op_move rfl rfl ?_)
          refine wl_op rfl (op_build (v := .agg #[.int .i64 5, .int .i64 6]) rfl (fun w => by kernel_rfl) rfl ?_)
          refine wl_op rfl (op_buildSlice (cs := #[.int .i64 5, .int .i64 6]) (e := 29) rfl (fun w => by kernel_rfl) rfl ?_)
          intro W108 b109 hN110
          have hb111 : W108.heap[b109]? = some (.cells #[.int .i64 5, .int .i64 6] 29 (0, 0)) := hN110.blk
          have hB117 : Below w.heap.size w W108 := (below_new (below_step (below_step (Below.refl _ _) hE82) hW106) hN110)
          refine wl_op rfl (op_appendP (enc := encQ) (5, 6) rfl rfl app25 rfl rfl (Own.ext (Own.ext hown hW106) hN110.ext) (cells_blk hb111) rfl rfl (by first | (simp only [List.length_nil]; omega) | (have := clash_le s (0 + 1); omega) | (have := clash_le s (1 + 1); omega) | (have := clash_le s (2 + 1); omega) | (have := clash_le s (3 + 1); omega) | (have := clash_le s (4 + 1); omega) | (have := clash_le s (5 + 1); omega) | (have := clash_le s (6 + 1); omega)) (by first | (simp only [List.length_nil]; omega) | (have := clash_le s (0 + 1); omega) | (have := clash_le s (1 + 1); omega) | (have := clash_le s (2 + 1); omega) | (have := clash_le s (3 + 1); omega) | (have := clash_le s (4 + 1); omega) | (have := clash_le s (5 + 1); omega) | (have := clash_le s (6 + 1); omega)) hB117.size rfl ?_)
          intro v112 W113 ho114 hg115 hob116
          refine wl_op rfl (op_assign rfl rfl ?_)
          refine (wl_done (then_norm ?_))
          have hb : badOf s (⟨5, 6, bothB 2 1⟩) = true := hc107
          have hB118 : Below w.heap.size w W113 := (below_grown hB117 (Own.ext (Own.ext hown hW106) hN110.ext) hg115 (Nat.le_refl _))
          exact ⟨v112, ⟨rfl, rfl, rfl, trivial⟩, hB118, (by rw [take_filter_t (rfl : clashRows[2]? = some _) hb, List.map_append]; exact ho114)⟩
        · refine wc_skip ?_
          refine (then_norm ?_)
          have hb : badOf s (⟨5, 6, bothB 2 1⟩) = false := hc107
          have hB119 : Below w.heap.size w W105 := (below_step (below_step (Below.refl _ _) hE82) hW106)
          exact ⟨v, ⟨rfl, rfl, rfl, trivial⟩, hB119, (by rw [take_filter_f (rfl : clashRows[2]? = some _) hb]; exact (Own.ext hown hW106))⟩
      · rintro l' W83 ⟨v, hsub, hE120, hown⟩
        refine WC.sub _ hsub ?_
        refine wc_join (fun l' w' => ∃ (v : Value), Sub [(0, .slice A n c), (2, .slice none 0 0), (3, v)] l' ∧ Below w.heap.size w w' ∧ (Own encQ w.heap.size 29 2 w' v (((clashRows.take (3 + 1)).filter (badOf s)).map pairOf))) ?_ ?_
        · refine wc_seq ?_
          refine wc_text [(0, .slice A n c), (2, .slice none 0 0), (3, v)] ⟨rfl, rfl, rfl, trivial⟩ [fun v _ => v = .slice A n c, fun v _ => v = .int .i64 (valueOf s 5), fun v _ => v = .bool (decide (valueOf s 5 = 2)), fun v _ => v = .bool (decide (valueOf s 5 = 2)), fun v _ => v = (bif (decide (valueOf s 5 = 2)) then (.slice A n c) else undef), fun v _ => v = (bif (decide (valueOf s 5 = 2)) then (.int .i64 (valueOf s 7)) else undef), fun v _ => v = (bif (decide (valueOf s 5 = 2)) then (.bool (decide (valueOf s 7 = 2))) else undef), fun v _ => v = .bool ((decide (valueOf s 5 = 2)) && (decide (valueOf s 7 = 2)))] [[], [0], [1], [2], [3], [3, 4], [3, 5], [3, 6]] [7] rfl rfl rfl ⟨fun _ _ _ _ h => h, fun _ _ _ _ h => h, fun _ _ _ _ h => h, fun _ _ _ _ h => h, fun _ _ _ _ h => h, fun _ _ _ _ h => h, fun _ _ _ _ h => h, fun _ _ _ _ h => h, trivial⟩ ⟨?_, ?_, ?_, ?_, ?_, ?_, ?_, ?_, trivial⟩ ?_
          · intro W122 hW123
            refine gather_nil ?_
            refine opg_none rfl ?_
            exact op_move rfl rfl ⟨told rfl rfl rfl, (Below.refl _ _)⟩
          · intro W122 hW123
            rintro _ rfl
            refine gather_nil ?_
            refine opg_none rfl ?_
            have hB126 : Below w.heap.size w W122 := (below_step (below_step (Below.refl _ _) hE120) hW123)
            refine op_call ent48 rfl (rvalue_spec (hs.ext (flat_lifts _) hB126)) rfl ?_
            rintro _ W127 ⟨rfl, hE128⟩
            exact ⟨told rfl rfl rfl, hE128⟩
          · intro W122 hW123
            rintro _ rfl
            refine gather_nil ?_
            refine opg_none rfl ?_
            exact op_eql rfl rfl rfl ⟨told rfl rfl rfl, (Below.refl _ _)⟩
          · intro W122 hW123
            rintro _ rfl
            refine gather_nil ?_
            refine opg_none rfl ?_
            exact op_move rfl rfl ⟨told rfl rfl rfl, (Below.refl _ _)⟩
          · intro W122 hW123
            rintro _ rfl
            refine gather_nil ?_
            refine opg_t1 rfl rfl (fun hg129 => ?_) (fun h => by rw [h, cond_false])
            exact op_move rfl rfl ⟨told rfl rfl (by rw [hg129, cond_true]), (Below.refl _ _)⟩
          · intro W122 hW123
            rintro _ rfl
            intro v130 (hv131 : v130 = bif (decide (valueOf s 5 = 2)) then (.slice A n c) else undef)
            refine gather_nil ?_
            refine opg_t1 rfl rfl (fun hg132 => ?_) (fun h => by rw [h, cond_false])
            have hd133 := of_decide_eq_true hg132
            obtain rfl : v130 = .slice A n c := by rw [hv131, hg132, cond_true]
            have hB134 : Below w.heap.size w W122 := (below_step (below_step (Below.refl _ _) hE120) hW123)
            refine op_call ent48 rfl (rvalue_spec (hs.ext (flat_lifts _) hB134)) rfl ?_
            rintro _ W135 ⟨rfl, hE136⟩
            exact ⟨told rfl rfl (by rw [hg132, cond_true]), hE136⟩
          · intro W122 hW123
            rintro _ rfl
            intro v137 (hv138 : v137 = bif (decide (valueOf s 5 = 2)) then (.int .i64 (valueOf s 7)) else undef)
            refine gather_nil ?_
            refine opg_t1 rfl rfl (fun hg139 => ?_) (fun h => by rw [h, cond_false])
            have hd140 := of_decide_eq_true hg139
            obtain rfl : v137 = .int .i64 (valueOf s 7) := by rw [hv138, hg139, cond_true]
            exact op_eql rfl rfl rfl ⟨told rfl rfl (by rw [hg139, cond_true]), (Below.refl _ _)⟩
          · intro W122 hW123
            rintro _ rfl
            intro v141 (hv142 : v141 = bif (decide (valueOf s 5 = 2)) then (.bool (decide (valueOf s 7 = 2))) else undef)
            refine gather_nil ?_
            refine opg_none rfl ?_
            exact op_and rfl rfl rfl (fun h => by rw [hv142, h, cond_true]) rfl ⟨told rfl rfl rfl, (Below.refl _ _)⟩
          intro W143 hW144
          rintro _ rfl
          refine gather_nil ?_
          refine (then_norm ?_)
          refine wc_cond (b := (decide (valueOf s 5 = 2)) && (decide (valueOf s 7 = 2))) rfl (fun hc145 => ?_) (fun hc145 => ?_)
          · refine wc_region ?_
            refine wl_op rfl (op_move rfl rfl ?_)
            refine wl_op rfl (op_build (v := .agg #[.int .i64 5, .int .i64 7]) rfl (fun w => by kernel_rfl) rfl ?_)
            refine wl_op rfl (op_buildSlice (cs := #[.int .i64 5, .int .i64 7]) (e := 29) rfl (fun w => by kernel_rfl) rfl ?_)
            intro W146 b147 hN148
            have hb149 : W146.heap[b147]? = some (.cells #[.int .i64 5, .int .i64 7] 29 (0, 0)) := hN148.blk
            have hB155 : Below w.heap.size w W146 := (below_new (below_step (below_step (Below.refl _ _) hE120) hW144) hN148)
            refine wl_op rfl (op_appendP (enc := encQ) (5, 7) rfl rfl app25 rfl rfl (Own.ext (Own.ext hown hW144) hN148.ext) (cells_blk hb149) rfl rfl (by first | (simp only [List.length_nil]; omega) | (have := clash_le s (0 + 1); omega) | (have := clash_le s (1 + 1); omega) | (have := clash_le s (2 + 1); omega) | (have := clash_le s (3 + 1); omega) | (have := clash_le s (4 + 1); omega) | (have := clash_le s (5 + 1); omega) | (have := clash_le s (6 + 1); omega)) (by first | (simp only [List.length_nil]; omega) | (have := clash_le s (0 + 1); omega) | (have := clash_le s (1 + 1); omega) | (have := clash_le s (2 + 1); omega) | (have := clash_le s (3 + 1); omega) | (have := clash_le s (4 + 1); omega) | (have := clash_le s (5 + 1); omega) | (have := clash_le s (6 + 1); omega)) hB155.size rfl ?_)
            intro v150 W151 ho152 hg153 hob154
            refine wl_op rfl (op_assign rfl rfl ?_)
            refine (wl_done (then_norm ?_))
            have hb : badOf s (⟨5, 7, bothB 2 2⟩) = true := hc145
            have hB156 : Below w.heap.size w W151 := (below_grown hB155 (Own.ext (Own.ext hown hW144) hN148.ext) hg153 (Nat.le_refl _))
            exact ⟨v150, ⟨rfl, rfl, rfl, trivial⟩, hB156, (by rw [take_filter_t (rfl : clashRows[3]? = some _) hb, List.map_append]; exact ho152)⟩
          · refine wc_skip ?_
            refine (then_norm ?_)
            have hb : badOf s (⟨5, 7, bothB 2 2⟩) = false := hc145
            have hB157 : Below w.heap.size w W143 := (below_step (below_step (Below.refl _ _) hE120) hW144)
            exact ⟨v, ⟨rfl, rfl, rfl, trivial⟩, hB157, (by rw [take_filter_f (rfl : clashRows[3]? = some _) hb]; exact (Own.ext hown hW144))⟩
        · rintro l' W121 ⟨v, hsub, hE158, hown⟩
          refine WC.sub _ hsub ?_
          refine wc_join (fun l' w' => ∃ (v : Value), Sub [(0, .slice A n c), (2, .slice none 0 0), (3, v)] l' ∧ Below w.heap.size w w' ∧ (Own encQ w.heap.size 29 2 w' v (((clashRows.take (4 + 1)).filter (badOf s)).map pairOf))) ?_ ?_
          · refine wc_seq ?_
            refine wc_text [(0, .slice A n c), (2, .slice none 0 0), (3, v)] ⟨rfl, rfl, rfl, trivial⟩ [fun v _ => v = .slice A n c, fun v _ => v = .int .i64 (valueOf s 8), fun v _ => v = .bool (decide (valueOf s 8 = 3)), fun v _ => v = .bool (decide (valueOf s 8 = 3)), fun v _ => v = (bif (decide (valueOf s 8 = 3)) then (.slice A n c) else undef), fun v _ => v = (bif (decide (valueOf s 8 = 3)) then (.int .i64 (valueOf s 11)) else undef), fun v _ => v = (bif (decide (valueOf s 8 = 3)) then (.bool (!decide (valueOf s 11 = 1))) else undef), fun v _ => v = .bool ((decide (valueOf s 8 = 3)) && (!decide (valueOf s 11 = 1)))] [[], [0], [1], [2], [3], [3, 4], [3, 5], [3, 6]] [7] rfl rfl rfl ⟨fun _ _ _ _ h => h, fun _ _ _ _ h => h, fun _ _ _ _ h => h, fun _ _ _ _ h => h, fun _ _ _ _ h => h, fun _ _ _ _ h => h, fun _ _ _ _ h => h, fun _ _ _ _ h => h, trivial⟩ ⟨?_, ?_, ?_, ?_, ?_, ?_, ?_, ?_, trivial⟩ ?_
            · intro W160 hW161
              refine gather_nil ?_
              refine opg_none rfl ?_
              exact op_move rfl rfl ⟨told rfl rfl rfl, (Below.refl _ _)⟩
            · intro W160 hW161
              rintro _ rfl
              refine gather_nil ?_
              refine opg_none rfl ?_
              have hB164 : Below w.heap.size w W160 := (below_step (below_step (Below.refl _ _) hE158) hW161)
              refine op_call ent48 rfl (rvalue_spec (hs.ext (flat_lifts _) hB164)) rfl ?_
              rintro _ W165 ⟨rfl, hE166⟩
              exact ⟨told rfl rfl rfl, hE166⟩
            · intro W160 hW161
              rintro _ rfl
              refine gather_nil ?_
              refine opg_none rfl ?_
              exact op_eql rfl rfl rfl ⟨told rfl rfl rfl, (Below.refl _ _)⟩
            · intro W160 hW161
              rintro _ rfl
              refine gather_nil ?_
              refine opg_none rfl ?_
              exact op_move rfl rfl ⟨told rfl rfl rfl, (Below.refl _ _)⟩
            · intro W160 hW161
              rintro _ rfl
              refine gather_nil ?_
              refine opg_t1 rfl rfl (fun hg167 => ?_) (fun h => by rw [h, cond_false])
              exact op_move rfl rfl ⟨told rfl rfl (by rw [hg167, cond_true]), (Below.refl _ _)⟩
            · intro W160 hW161
              rintro _ rfl
              intro v168 (hv169 : v168 = bif (decide (valueOf s 8 = 3)) then (.slice A n c) else undef)
              refine gather_nil ?_
              refine opg_t1 rfl rfl (fun hg170 => ?_) (fun h => by rw [h, cond_false])
              have hd171 := of_decide_eq_true hg170
              obtain rfl : v168 = .slice A n c := by rw [hv169, hg170, cond_true]
              have hB172 : Below w.heap.size w W160 := (below_step (below_step (Below.refl _ _) hE158) hW161)
              refine op_call ent48 rfl (rvalue_spec (hs.ext (flat_lifts _) hB172)) rfl ?_
              rintro _ W173 ⟨rfl, hE174⟩
              exact ⟨told rfl rfl (by rw [hg170, cond_true]), hE174⟩
            · intro W160 hW161
              rintro _ rfl
              intro v175 (hv176 : v175 = bif (decide (valueOf s 8 = 3)) then (.int .i64 (valueOf s 11)) else undef)
              refine gather_nil ?_
              refine opg_t1 rfl rfl (fun hg177 => ?_) (fun h => by rw [h, cond_false])
              have hd178 := of_decide_eq_true hg177
              obtain rfl : v175 = .int .i64 (valueOf s 11) := by rw [hv176, hg177, cond_true]
              exact op_neq rfl rfl rfl ⟨told rfl rfl (by rw [hg177, cond_true]), (Below.refl _ _)⟩
            · intro W160 hW161
              rintro _ rfl
              intro v179 (hv180 : v179 = bif (decide (valueOf s 8 = 3)) then (.bool (!decide (valueOf s 11 = 1))) else undef)
              refine gather_nil ?_
              refine opg_none rfl ?_
              exact op_and rfl rfl rfl (fun h => by rw [hv180, h, cond_true]) rfl ⟨told rfl rfl rfl, (Below.refl _ _)⟩
            intro W181 hW182
            rintro _ rfl
            refine gather_nil ?_
            refine (then_norm ?_)
            refine wc_cond (b := (decide (valueOf s 8 = 3)) && (!decide (valueOf s 11 = 1))) rfl (fun hc183 => ?_) (fun hc183 => ?_)
            · refine wc_region ?_
              refine wl_op rfl (op_move rfl rfl ?_)
              refine wl_op rfl (op_build (v := .agg #[.int .i64 8, .int .i64 11]) rfl (fun w => by kernel_rfl) rfl ?_)
              refine wl_op rfl (op_buildSlice (cs := #[.int .i64 8, .int .i64 11]) (e := 29) rfl (fun w => by kernel_rfl) rfl ?_)
              intro W184 b185 hN186
              have hb187 : W184.heap[b185]? = some (.cells #[.int .i64 8, .int .i64 11] 29 (0, 0)) := hN186.blk
              have hB193 : Below w.heap.size w W184 := (below_new (below_step (below_step (Below.refl _ _) hE158) hW182) hN186)
              refine wl_op rfl (op_appendP (enc := encQ) (8, 11) rfl rfl app25 rfl rfl (Own.ext (Own.ext hown hW182) hN186.ext) (cells_blk hb187) rfl rfl (by first | (simp only [List.length_nil]; omega) | (have := clash_le s (0 + 1); omega) | (have := clash_le s (1 + 1); omega) | (have := clash_le s (2 + 1); omega) | (have := clash_le s (3 + 1); omega) | (have := clash_le s (4 + 1); omega) | (have := clash_le s (5 + 1); omega) | (have := clash_le s (6 + 1); omega)) (by first | (simp only [List.length_nil]; omega) | (have := clash_le s (0 + 1); omega) | (have := clash_le s (1 + 1); omega) | (have := clash_le s (2 + 1); omega) | (have := clash_le s (3 + 1); omega) | (have := clash_le s (4 + 1); omega) | (have := clash_le s (5 + 1); omega) | (have := clash_le s (6 + 1); omega)) hB193.size rfl ?_)
              intro v188 W189 ho190 hg191 hob192
              refine wl_op rfl (op_assign rfl rfl ?_)
              refine (wl_done (then_norm ?_))
              have hb : badOf s (⟨8, 11, fun p q => (decide (p = 3)) && (decide (1 < q))⟩) = true := by rw [bad4 hr]; exact hc183
              have hB194 : Below w.heap.size w W189 := (below_grown hB193 (Own.ext (Own.ext hown hW182) hN186.ext) hg191 (Nat.le_refl _))
              exact ⟨v188, ⟨rfl, rfl, rfl, trivial⟩, hB194, (by rw [take_filter_t (rfl : clashRows[4]? = some _) hb, List.map_append]; exact ho190)⟩
            · refine wc_skip ?_
              refine (then_norm ?_)
              have hb : badOf s (⟨8, 11, fun p q => (decide (p = 3)) && (decide (1 < q))⟩) = false := by rw [bad4 hr]; exact hc183
              have hB195 : Below w.heap.size w W181 := (below_step (below_step (Below.refl _ _) hE158) hW182)
              exact ⟨v, ⟨rfl, rfl, rfl, trivial⟩, hB195, (by rw [take_filter_f (rfl : clashRows[4]? = some _) hb]; exact (Own.ext hown hW182))⟩
          · rintro l' W159 ⟨v, hsub, hE196, hown⟩
            refine WC.sub _ hsub ?_
            refine wc_join (fun l' w' => ∃ (v : Value), Sub [(0, .slice A n c), (2, .slice none 0 0), (3, v)] l' ∧ Below w.heap.size w w' ∧ (Own encQ w.heap.size 29 2 w' v (((clashRows.take (5 + 1)).filter (badOf s)).map pairOf))) ?_ ?_
            · refine wc_seq ?_
              refine wc_text [(0, .slice A n c), (2, .slice none 0 0), (3, v)] ⟨rfl, rfl, rfl, trivial⟩ [fun v _ => v = .slice A n c, fun v _ => v = .int .i64 (valueOf s 9), fun v _ => v = .bool (decide (valueOf s 9 ≤ 2)), fun v _ => v = .bool (decide (valueOf s 9 ≤ 2)), fun v _ => v = (bif (decide (valueOf s 9 ≤ 2)) then (.slice A n c) else undef), fun v _ => v = (bif (decide (valueOf s 9 ≤ 2)) then (.int .i64 (valueOf s 11)) else undef), fun v _ => v = (bif (decide (valueOf s 9 ≤ 2)) then (.bool (decide (valueOf s 11 = 3))) else undef), fun v _ => v = .bool ((decide (valueOf s 9 ≤ 2)) && (decide (valueOf s 11 = 3)))] [[], [0], [1], [2], [3], [3, 4], [3, 5], [3, 6]] [7] rfl rfl rfl ⟨fun _ _ _ _ h => h, fun _ _ _ _ h => h, fun _ _ _ _ h => h, fun _ _ _ _ h => h, fun _ _ _ _ h => h, fun _ _ _ _ h => h, fun _ _ _ _ h => h, fun _ _ _ _ h => h, trivial⟩ ⟨?_, ?_, ?_, ?_, ?_, ?_, ?_, ?_, trivial⟩ ?_
              · intro W198 hW199
                refine gather_nil ?_
                refine opg_none rfl ?_
                exact op_move rfl rfl ⟨told rfl rfl rfl, (Below.refl _ _)⟩
              · intro W198 hW199
                rintro _ rfl
                refine gather_nil ?_
                refine opg_none rfl ?_
                have hB202 : Below w.heap.size w W198 := (below_step (below_step (Below.refl _ _) hE196) hW199)
                refine op_call ent48 rfl (rvalue_spec (hs.ext (flat_lifts _) hB202)) rfl ?_
                rintro _ W203 ⟨rfl, hE204⟩
                exact ⟨told rfl rfl rfl, hE204⟩
              · intro W198 hW199
                rintro _ rfl
                refine gather_nil ?_
                refine opg_none rfl ?_
                exact op_leq rfl rfl rfl ⟨told rfl rfl rfl, (Below.refl _ _)⟩
              · intro W198 hW199
                rintro _ rfl
                refine gather_nil ?_
                refine opg_none rfl ?_
                exact op_move rfl rfl ⟨told rfl rfl rfl, (Below.refl _ _)⟩
              · intro W198 hW199
                rintro _ rfl
                refine gather_nil ?_
                refine opg_t1 rfl rfl (fun hg205 => ?_) (fun h => by rw [h, cond_false])
                exact op_move rfl rfl ⟨told rfl rfl (by rw [hg205, cond_true]), (Below.refl _ _)⟩
              · intro W198 hW199
                rintro _ rfl
                intro v206 (hv207 : v206 = bif (decide (valueOf s 9 ≤ 2)) then (.slice A n c) else undef)
                refine gather_nil ?_
                refine opg_t1 rfl rfl (fun hg208 => ?_) (fun h => by rw [h, cond_false])
                have hd209 := of_decide_eq_true hg208
                obtain rfl : v206 = .slice A n c := by rw [hv207, hg208, cond_true]
                have hB210 : Below w.heap.size w W198 := (below_step (below_step (Below.refl _ _) hE196) hW199)
                refine op_call ent48 rfl (rvalue_spec (hs.ext (flat_lifts _) hB210)) rfl ?_
                rintro _ W211 ⟨rfl, hE212⟩
                exact ⟨told rfl rfl (by rw [hg208, cond_true]), hE212⟩
              · intro W198 hW199
                rintro _ rfl
                intro v213 (hv214 : v213 = bif (decide (valueOf s 9 ≤ 2)) then (.int .i64 (valueOf s 11)) else undef)
                refine gather_nil ?_
                refine opg_t1 rfl rfl (fun hg215 => ?_) (fun h => by rw [h, cond_false])
                have hd216 := of_decide_eq_true hg215
                obtain rfl : v213 = .int .i64 (valueOf s 11) := by rw [hv214, hg215, cond_true]
                exact op_eql rfl rfl rfl ⟨told rfl rfl (by rw [hg215, cond_true]), (Below.refl _ _)⟩
              · intro W198 hW199
                rintro _ rfl
                intro v217 (hv218 : v217 = bif (decide (valueOf s 9 ≤ 2)) then (.bool (decide (valueOf s 11 = 3))) else undef)
                refine gather_nil ?_
                refine opg_none rfl ?_
                exact op_and rfl rfl rfl (fun h => by rw [hv218, h, cond_true]) rfl ⟨told rfl rfl rfl, (Below.refl _ _)⟩
              intro W219 hW220
              rintro _ rfl
              refine gather_nil ?_
              refine (then_norm ?_)
              refine wc_cond (b := (decide (valueOf s 9 ≤ 2)) && (decide (valueOf s 11 = 3))) rfl (fun hc221 => ?_) (fun hc221 => ?_)
              · refine wc_region ?_
                refine wl_op rfl (op_move rfl rfl ?_)
                refine wl_op rfl (op_build (v := .agg #[.int .i64 9, .int .i64 11]) rfl (fun w => by kernel_rfl) rfl ?_)
                refine wl_op rfl (op_buildSlice (cs := #[.int .i64 9, .int .i64 11]) (e := 29) rfl (fun w => by kernel_rfl) rfl ?_)
                intro W222 b223 hN224
                have hb225 : W222.heap[b223]? = some (.cells #[.int .i64 9, .int .i64 11] 29 (0, 0)) := hN224.blk
                have hB231 : Below w.heap.size w W222 := (below_new (below_step (below_step (Below.refl _ _) hE196) hW220) hN224)
                refine wl_op rfl (op_appendP (enc := encQ) (9, 11) rfl rfl app25 rfl rfl (Own.ext (Own.ext hown hW220) hN224.ext) (cells_blk hb225) rfl rfl (by first | (simp only [List.length_nil]; omega) | (have := clash_le s (0 + 1); omega) | (have := clash_le s (1 + 1); omega) | (have := clash_le s (2 + 1); omega) | (have := clash_le s (3 + 1); omega) | (have := clash_le s (4 + 1); omega) | (have := clash_le s (5 + 1); omega) | (have := clash_le s (6 + 1); omega)) (by first | (simp only [List.length_nil]; omega) | (have := clash_le s (0 + 1); omega) | (have := clash_le s (1 + 1); omega) | (have := clash_le s (2 + 1); omega) | (have := clash_le s (3 + 1); omega) | (have := clash_le s (4 + 1); omega) | (have := clash_le s (5 + 1); omega) | (have := clash_le s (6 + 1); omega)) hB231.size rfl ?_)
                intro v226 W227 ho228 hg229 hob230
                refine wl_op rfl (op_assign rfl rfl ?_)
                refine (wl_done (then_norm ?_))
                have hb : badOf s (⟨9, 11, fun p q => (decide (p < 3)) && (decide (q = 3))⟩) = true := by rw [bad5]; exact hc221
                have hB232 : Below w.heap.size w W227 := (below_grown hB231 (Own.ext (Own.ext hown hW220) hN224.ext) hg229 (Nat.le_refl _))
                exact ⟨v226, ⟨rfl, rfl, rfl, trivial⟩, hB232, (by rw [take_filter_t (rfl : clashRows[5]? = some _) hb, List.map_append]; exact ho228)⟩
              · refine wc_skip ?_
                refine (then_norm ?_)
                have hb : badOf s (⟨9, 11, fun p q => (decide (p < 3)) && (decide (q = 3))⟩) = false := by rw [bad5]; exact hc221
                have hB233 : Below w.heap.size w W219 := (below_step (below_step (Below.refl _ _) hE196) hW220)
                exact ⟨v, ⟨rfl, rfl, rfl, trivial⟩, hB233, (by rw [take_filter_f (rfl : clashRows[5]? = some _) hb]; exact (Own.ext hown hW220))⟩
            · rintro l' W197 ⟨v, hsub, hE234, hown⟩
              refine WC.sub _ hsub ?_
              refine wc_join (fun l' w' => ∃ (v : Value), Sub [(2, .slice none 0 0), (3, v)] l' ∧ Below w.heap.size w w' ∧ (Own encQ w.heap.size 29 2 w' v (((clashRows.take (6 + 1)).filter (badOf s)).map pairOf))) ?_ ?_
              · refine wc_seq ?_
                refine wc_text [(0, .slice A n c), (2, .slice none 0 0), (3, v)] ⟨rfl, rfl, rfl, trivial⟩ [fun v _ => v = .slice A n c, fun v _ => v = .int .i64 (valueOf s 10), fun v _ => v = .bool (decide (valueOf s 10 = 0)), fun v _ => v = .bool (decide (valueOf s 10 = 0)), fun v _ => v = (bif (decide (valueOf s 10 = 0)) then (.slice A n c) else undef), fun v _ => v = (bif (decide (valueOf s 10 = 0)) then (.int .i64 (valueOf s 13)) else undef), fun v _ => v = (bif (decide (valueOf s 10 = 0)) then (.bool (decide (valueOf s 13 = 4))) else undef), fun v _ => v = .bool ((decide (valueOf s 10 = 0)) && (decide (valueOf s 13 = 4)))] [[], [0], [1], [2], [3], [3, 4], [3, 5], [3, 6]] [7] rfl rfl rfl ⟨fun _ _ _ _ h => h, fun _ _ _ _ h => h, fun _ _ _ _ h => h, fun _ _ _ _ h => h, fun _ _ _ _ h => h, fun _ _ _ _ h => h, fun _ _ _ _ h => h, fun _ _ _ _ h => h, trivial⟩ ⟨?_, ?_, ?_, ?_, ?_, ?_, ?_, ?_, trivial⟩ ?_
                · intro W236 hW237
                  refine gather_nil ?_
                  refine opg_none rfl ?_
                  exact op_move rfl rfl ⟨told rfl rfl rfl, (Below.refl _ _)⟩
                · intro W236 hW237
                  rintro _ rfl
                  refine gather_nil ?_
                  refine opg_none rfl ?_
                  have hB240 : Below w.heap.size w W236 := (below_step (below_step (Below.refl _ _) hE234) hW237)
                  refine op_call ent48 rfl (rvalue_spec (hs.ext (flat_lifts _) hB240)) rfl ?_
                  rintro _ W241 ⟨rfl, hE242⟩
                  exact ⟨told rfl rfl rfl, hE242⟩
                · intro W236 hW237
                  rintro _ rfl
                  refine gather_nil ?_
                  refine opg_none rfl ?_
                  exact op_eql rfl rfl rfl ⟨told rfl rfl rfl, (Below.refl _ _)⟩
                · intro W236 hW237
                  rintro _ rfl
                  refine gather_nil ?_
                  refine opg_none rfl ?_
                  exact op_move rfl rfl ⟨told rfl rfl rfl, (Below.refl _ _)⟩
                · intro W236 hW237
                  rintro _ rfl
                  refine gather_nil ?_
                  refine opg_t1 rfl rfl (fun hg243 => ?_) (fun h => by rw [h, cond_false])
                  exact op_move rfl rfl ⟨told rfl rfl (by rw [hg243, cond_true]), (Below.refl _ _)⟩
                · intro W236 hW237
                  rintro _ rfl
                  intro v244 (hv245 : v244 = bif (decide (valueOf s 10 = 0)) then (.slice A n c) else undef)
                  refine gather_nil ?_
                  refine opg_t1 rfl rfl (fun hg246 => ?_) (fun h => by rw [h, cond_false])
                  have hd247 := of_decide_eq_true hg246
                  obtain rfl : v244 = .slice A n c := by rw [hv245, hg246, cond_true]
                  have hB248 : Below w.heap.size w W236 := (below_step (below_step (Below.refl _ _) hE234) hW237)
                  refine op_call ent48 rfl (rvalue_spec (hs.ext (flat_lifts _) hB248)) rfl ?_
                  rintro _ W249 ⟨rfl, hE250⟩
                  exact ⟨told rfl rfl (by rw [hg246, cond_true]), hE250⟩
                · intro W236 hW237
                  rintro _ rfl
                  intro v251 (hv252 : v251 = bif (decide (valueOf s 10 = 0)) then (.int .i64 (valueOf s 13)) else undef)
                  refine gather_nil ?_
                  refine opg_t1 rfl rfl (fun hg253 => ?_) (fun h => by rw [h, cond_false])
                  have hd254 := of_decide_eq_true hg253
                  obtain rfl : v251 = .int .i64 (valueOf s 13) := by rw [hv252, hg253, cond_true]
                  exact op_eql rfl rfl rfl ⟨told rfl rfl (by rw [hg253, cond_true]), (Below.refl _ _)⟩
                · intro W236 hW237
                  rintro _ rfl
                  intro v255 (hv256 : v255 = bif (decide (valueOf s 10 = 0)) then (.bool (decide (valueOf s 13 = 4))) else undef)
                  refine gather_nil ?_
                  refine opg_none rfl ?_
                  exact op_and rfl rfl rfl (fun h => by rw [hv256, h, cond_true]) rfl ⟨told rfl rfl rfl, (Below.refl _ _)⟩
                intro W257 hW258
                rintro _ rfl
                refine gather_nil ?_
                refine (then_norm ?_)
                refine wc_cond (b := (decide (valueOf s 10 = 0)) && (decide (valueOf s 13 = 4))) rfl (fun hc259 => ?_) (fun hc259 => ?_)
                · refine wc_region ?_
                  refine wl_op rfl (op_move rfl rfl ?_)
                  refine wl_op rfl (op_build (v := .agg #[.int .i64 10, .int .i64 13]) rfl (fun w => by kernel_rfl) rfl ?_)
                  refine wl_op rfl (op_buildSlice (cs := #[.int .i64 10, .int .i64 13]) (e := 29) rfl (fun w => by kernel_rfl) rfl ?_)
                  intro W260 b261 hN262
                  have hb263 : W260.heap[b261]? = some (.cells #[.int .i64 10, .int .i64 13] 29 (0, 0)) := hN262.blk
                  have hB269 : Below w.heap.size w W260 := (below_new (below_step (below_step (Below.refl _ _) hE234) hW258) hN262)
                  refine wl_op rfl (op_appendP (enc := encQ) (10, 13) rfl rfl app25 rfl rfl (Own.ext (Own.ext hown hW258) hN262.ext) (cells_blk hb263) rfl rfl (by first | (simp only [List.length_nil]; omega) | (have := clash_le s (0 + 1); omega) | (have := clash_le s (1 + 1); omega) | (have := clash_le s (2 + 1); omega) | (have := clash_le s (3 + 1); omega) | (have := clash_le s (4 + 1); omega) | (have := clash_le s (5 + 1); omega) | (have := clash_le s (6 + 1); omega)) (by first | (simp only [List.length_nil]; omega) | (have := clash_le s (0 + 1); omega) | (have := clash_le s (1 + 1); omega) | (have := clash_le s (2 + 1); omega) | (have := clash_le s (3 + 1); omega) | (have := clash_le s (4 + 1); omega) | (have := clash_le s (5 + 1); omega) | (have := clash_le s (6 + 1); omega)) hB269.size rfl ?_)
                  intro v264 W265 ho266 hg267 hob268
                  refine wl_op rfl (op_assign rfl rfl ?_)
                  refine (wl_done (then_norm ?_))
                  have hb : badOf s (⟨10, 13, bothB 0 4⟩) = true := hc259
                  have hB270 : Below w.heap.size w W265 := (below_grown hB269 (Own.ext (Own.ext hown hW258) hN262.ext) hg267 (Nat.le_refl _))
                  exact ⟨v264, ⟨rfl, rfl, trivial⟩, hB270, (by rw [take_filter_t (rfl : clashRows[6]? = some _) hb, List.map_append]; exact ho266)⟩
                · refine wc_skip ?_
                  refine (then_norm ?_)
                  have hb : badOf s (⟨10, 13, bothB 0 4⟩) = false := hc259
                  have hB271 : Below w.heap.size w W257 := (below_step (below_step (Below.refl _ _) hE234) hW258)
                  exact ⟨v, ⟨rfl, rfl, trivial⟩, hB271, (by rw [take_filter_f (rfl : clashRows[6]? = some _) hb]; exact (Own.ext hown hW258))⟩
              · rintro l' W235 ⟨v, hsub, hE272, hown⟩
                refine WC.sub _ hsub ?_
                refine wc_seq ?_
                refine wc_region ?_
                refine wl_op rfl (op_move rfl rfl ?_)
                refine wl_op rfl (op_assign rfl rfl ?_)
                refine (wl_done (then_norm ?_))
                refine wc_ret ?_
                have hB273 : Below w.heap.size w W235 := (below_step (Below.refl _ _) hE272)
                obtain ⟨A274, n275, c276, hv277, hr278, hn279, hnc280⟩ := rd_of_OwnC hown (fun _ => rfl) (by have := clash_le s (6 + 1); omega)
                subst hv277
                refine ⟨[_], ⟨rfl, trivial⟩, ⟨A274, n275, c276, ?_, hr278, hB273⟩⟩
                exact rfl

end Go.Eng

set_option linter.unusedVariables false
set_option maxRecDepth 100000
namespace Go.Eng
open Go.RowKit Go.Shelf Go.Proofs Pol

theorem ent28 : Enters Try.prog 28 := enters_of Try.func28 (by kernel_rfl) rfl
theorem ent41 : Enters Try.prog 41 := enters_of Try.func41 (by kernel_rfl) rfl
theorem ent47 : Enters Try.prog 47 := enters_of Try.func47 (by kernel_rfl) rfl
theorem ent49 : Enters Try.prog 49 := enters_of Try.func49 (by kernel_rfl) rfl
theorem ent50 : Enters Try.prog 50 := enters_of Try.func50 (by kernel_rfl) rfl
theorem ent51 : Enters Try.prog 51 := enters_of Try.func51 (by kernel_rfl) rfl

theorem valid_mk {k v : Int} (h1 : isB k = true) (h2 : leastI k ≤ v) (h3 : v ≤ mostI k) : validB ⟨k, v⟩ = true := by
  have e : validB ⟨k, v⟩ = ((isB k && decide (leastI k ≤ v)) && decide (v ≤ mostI k)) := rfl
  rw [e, h1, decide_eq_true h2, decide_eq_true h3]; rfl
theorem val_rng {a : List Pol} (ha : validSet a = true) (k : Int) (h : isB k = true) : leastI k ≤ valueOf (agC a) k ∧ valueOf (agC a) k ≤ mostI k :=
  valueOf_rng (chosen_valid ha keepCalls) (isB_iff.1 h).1 (isB_iff.1 h).2
theorem agreed_valid {a b : List Pol} (ha : validSet a = true) (hb : validSet b = true) : validSet (agreed (agC a) (agC b)) = true := by
  have h8 : validB ⟨8, rebindOf (agC a) (agC b)⟩ = true := by
    have h1 := val_rng ha 8 rfl; have h2 := val_rng hb 8 rfl
    unfold rebindOf; split <;> exact valid_mk rfl (by omega) (by omega)
  have h9 : validB ⟨9, certOf (agC a) (agC b)⟩ = true := by
    have h1 := val_rng ha 9 rfl; have h2 := val_rng hb 9 rfl
    unfold certOf; split <;> exact valid_mk rfl (by omega) (by omega)
  have h10 : validB ⟨10, limitOf (agC a) (agC b)⟩ = true := by
    have h1 := val_rng ha 10 rfl; have h2 := val_rng hb 10 rfl
    unfold limitOf; split <;> exact valid_mk rfl (by omega) (by omega)
  have h11 : validB ⟨11, valueOf (agC a) 11⟩ = true := by
    have h1 := val_rng ha 11 rfl
    exact valid_mk rfl (by omega) (by omega)
  have h12 : validB ⟨12, prioOf (agC a) (agC b)⟩ = true := by
    have h1 := val_rng ha 12 rfl; have h2 := val_rng hb 12 rfl
    unfold prioOf; repeat' split
    all_goals exact valid_mk rfl (by omega) (by omega)
  have h13 : validB ⟨13, orderOf (agC a) (agC b)⟩ = true := by
    have h1 := val_rng ha 13 rfl; have h2 := val_rng hb 13 rfl
    unfold orderOf; split <;> exact valid_mk rfl (by omega) (by omega)
  rw [validSet_iff]
  intro i hi
  match i, hi with
  | 0, _ => show (validB _ && _) = true; rw [h8]; rfl
  | 1, _ => show (validB _ && _) = true; rw [h9]; rfl
  | 2, _ => show (validB _ && _) = true; rw [h10]; rfl
  | 3, _ => show (validB _ && _) = true; rw [h11]; rfl
  | 4, _ => show (validB _ && _) = true; rw [h12]; rfl
  | 5, _ => show (validB _ && _) = true; rw [h13]; rfl
  | i + 6, hi => exact absurd hi (by simp [agreed])
abbrev partF : Pol → Bool := fun p => (decide (8 ≤ p.kind)) && (decide (p.kind ≤ 13))
theorem part_calls {a : List Pol} (ha : validSet a = true) : a.filter partF = agC a := by
  unfold agC chosenL
  rw [if_pos ha]
  refine List.filter_congr fun p hp => ?_
  have := (valid_kind (mem_valid ha hp)).2
  simp [this]
theorem cert_eq {a b : List Pol} (ha : validSet a = true) (hb : validSet b = true) :
    (if strengthR 9 (valueOf (agC a) 9) < strengthR 9 (valueOf (agC b) 9) then valueOf (agC b) 9 else valueOf (agC a) 9) = certOf (agC a) (agC b) := by
  have h1 : 1 ≤ valueOf (agC a) 9 ∧ valueOf (agC a) 9 ≤ 4 := val_rng ha 9 rfl
  have h2 : 1 ≤ valueOf (agC b) 9 ∧ valueOf (agC b) 9 ≤ 4 := val_rng hb 9 rfl
  unfold certOf
  generalize valueOf (agC a) 9 = x at *
  generalize valueOf (agC b) 9 = y at *
  have hx : x = 1 ∨ x = 2 ∨ x = 3 ∨ x = 4 := by omega
  have hy : y = 1 ∨ y = 2 ∨ y = 3 ∨ y = 4 := by omega
  rcases hx with rfl | rfl | rfl | rfl <;> rcases hy with rfl | rfl | rfl | rfl <;> decide
theorem lim_rt {c s : List Pol} (h : ((decide (valueOf c 10 = 0)) || ((!decide (valueOf s 10 = 0)) && (decide (valueOf s 10 < valueOf c 10)))) = true) (h0 : 0 ≤ valueOf s 10) : valueOf s 10 = limitOf c s := by
  have h' : valueOf c 10 = 0 ∨ (¬ valueOf s 10 = 0 ∧ valueOf s 10 < valueOf c 10) := by simpa using h
  unfold limitOf
  by_cases hz : valueOf s 10 = 0
  · rw [if_neg (by omega)]; omega
  · rw [if_pos (by omega)]
theorem lim_rf {c s : List Pol} (h : ((decide (valueOf c 10 = 0)) || ((!decide (valueOf s 10 = 0)) && (decide (valueOf s 10 < valueOf c 10)))) = false) : valueOf c 10 = limitOf c s := by
  have h' : ¬ (valueOf c 10 = 0 ∨ (¬ valueOf s 10 = 0 ∧ valueOf s 10 < valueOf c 10)) := by
    intro k
    have : ((decide (valueOf c 10 = 0)) || ((!decide (valueOf s 10 = 0)) && (decide (valueOf s 10 < valueOf c 10)))) = true := by simpa using k
    rw [h] at this; cases this
  unfold limitOf
  rw [if_neg (by omega)]
theorem agree_clash_r {a b : List Pol} (hva : validSet a = true) (hvb : validSet b = true) (h : ¬ valueOf (agC b) 11 < valueOf (agC a) 11) {q : Int × Int} (hq : (clashList (agreed (agC a) (agC b)))[0]? = some q) : agree a b = ([], q.1, 9) := by
  refine agree_clash hva hvb h (q := q) ?_
  rw [clashL, if_pos (agreed_valid hva hvb)]; exact hq
theorem agree_fine_r {a b : List Pol} (hva : validSet a = true) (hvb : validSet b = true) (h : ¬ valueOf (agC b) 11 < valueOf (agC a) 11) (hq : (clashList (agreed (agC a) (agC b))).length = 0) :
    agree a b = ((agreed (agC a) (agC b)).filter keepPlain, 0, 0) := by
  rw [agree_fine hva hvb h (by rw [clashL, if_pos (agreed_valid hva hvb)]; exact hq), chosenL, if_pos (agreed_valid hva hvb), chosenE, if_pos (agreed_valid hva hvb)]

theorem rClashes_spec {w : World} {A : Option Addr} {n c : Nat} {s : List Pol} (hs : RdP w A n s) : Ret Try.prog 9 #[.slice A n c] w (fun v w' => ∃ (A1 : Option Addr) (n1 c1 : Nat), v = .tuple #[.slice A1 n1 c1, .int .i64 (chosenE s)] ∧ RdQ w' A1 n1 (clashL s) ∧ Below w.heap.size w w') := by
  obtain ⟨bs1, os2, hA3, hc4⟩ := hs.flat
  have hln5 := hs.len
  have hbd6 := hs.bd
  have hlen_s := hs.len
  refine ret_of (args := [.slice A n c]) Try.func9 rfl Try.ntmps9 rfl (rs := [.tmp 2, .tmp 3]) rfl ?_
  refine wc_seq ?_
  refine wc_region ?_
  refine wl_op rfl (op_assign rfl rfl ?_)
  refine wl_op rfl (op_assign rfl rfl ?_)
  refine (wl_done (then_norm ?_))
  refine wc_seq ?_
  refine wc_seq ?_
  refine wc_region ?_
  refine wl_op rfl (op_move rfl rfl ?_)
  refine wl_op rfl (op_call ent28 rfl (rValidSet_spec hs) rfl ?_)
  rintro _ W7 ⟨rfl, hE8⟩
  refine wl_op rfl (op_not rfl rfl ?_)
  refine (wl_done (then_norm ?_))
  refine wc_cond (b := !(validSet s)) rfl (fun hc9 => ?_) (fun hc9 => ?_)
  · have hv : validSet s = false := by simpa using hc9
    refine wc_seq ?_
    refine wc_region ?_
    refine wl_op rfl (op_assign rfl rfl ?_)
    refine wl_op rfl (op_assign rfl rfl ?_)
    refine (wl_done (then_norm ?_))
    refine wc_ret ?_
    refine (then_ret ?_)
    have hB10 : Below w.heap.size w W7 := (below_step (Below.refl _ _) hE8)
    refine ⟨[_, _], ⟨rfl, rfl, trivial⟩, ⟨none, 0, 0, ?_, (by rw [clashL, if_neg (by rw [hv]; decide)]; exact rd_nil _ _ _), hB10⟩⟩
    rw [chosenE, if_neg (by rw [hv]; decide)]
    rfl
  · have hv : validSet s = true := by simpa using hc9
    refine wc_skip ?_
    refine (then_norm ?_)
    refine wc_seq ?_
    refine wc_region ?_
    refine wl_op rfl (op_move rfl rfl ?_)
    have hB11 : Below w.heap.size w W7 := (below_step (Below.refl _ _) hE8)
    refine wl_op rfl (op_call ent41 rfl (rclashes_spec (hs.ext (flat_lifts _) hB11) (valueOf_rng (fun p hp => mem_valid hv hp) (k := 11) (by decide) (by decide)).1) rfl ?_)
    rintro _ W16 ⟨A112, n113, c114, rfl, hp15, hE17⟩
    refine wl_op rfl (op_assign rfl rfl ?_)
    refine wl_op rfl (op_assign rfl rfl ?_)
    refine (wl_done (then_norm ?_))
    refine WC.sub [(2, .slice A112 n113 c114), (3, .int .i64 0)] ⟨rfl, rfl, trivial⟩ ?_
    refine wc_ret ?_
    have hB18 : Below w.heap.size w W16 := (below_step hB11 hE17)
    refine ⟨[_, _], ⟨rfl, rfl, trivial⟩, ⟨A112, n113, c114, ?_, (by rw [clashL, if_pos hv]; exact hp15), hB18⟩⟩
    rw [chosenE, if_pos hv]
    rfl

theorem rAgree_spec {w : World} {A : Option Addr} {n c : Nat} {a : List Pol} {A2 : Option Addr} {n2 c2 : Nat} {b : List Pol} (hs : RdP w A n a) (hs2 : RdP w A2 n2 b) (hn : n ≤ 1000) (hn2 : n2 ≤ 1000) : Ret Try.prog 11 #[.slice A n c, .slice A2 n2 c2] w (fun v w' => ∃ (A1 : Option Addr) (n1 c1 : Nat), v = .tuple #[.slice A1 n1 c1, .int .i64 ((agree a b).2.1), .int .i64 ((agree a b).2.2)] ∧ RdP w' A1 n1 (agree a b).1 ∧ Below w.heap.size w w') := by
  obtain ⟨bs1, os2, hA3, hc4⟩ := hs.flat
  have hln5 := hs.len
  have hbd6 := hs.bd
  have hlen_a := hs.len
  obtain ⟨bs7, os8, hA9, hc10⟩ := hs2.flat
  have hln11 := hs2.len
  have hbd12 := hs2.bd
  have hlen_b := hs2.len
  refine ret_of (args := [.slice A n c, .slice A2 n2 c2]) Try.func11 rfl Try.ntmps11 rfl (rs := [.tmp 4, .tmp 5, .tmp 6]) rfl ?_
  refine wc_seq ?_
  refine wc_region ?_
  refine wl_op rfl (op_assign rfl rfl ?_)
  refine wl_op rfl (op_assign rfl rfl ?_)
  refine wl_op rfl (op_assign rfl rfl ?_)
  refine (wl_done (then_norm ?_))
  refine wc_seq ?_
  refine wc_seq ?_
  refine wc_text [(0, .slice A n c), (1, .slice A2 n2 c2), (4, .slice none 0 0), (5, .int .i64 0), (6, .int .i64 0)] ⟨rfl, rfl, rfl, rfl, rfl, trivial⟩ [fun v _ => v = .slice A n c, fun v _ => v = .bool (validSet a), fun v _ => v = .bool (!(validSet a)), fun v _ => v = .bool (!(validSet a)), fun v _ => v = (bif (!(!(validSet a))) then (.slice A2 n2 c2) else undef), fun v _ => v = (bif (!(!(validSet a))) then (.bool (validSet b)) else undef), fun v _ => v = (bif (!(!(validSet a))) then (.bool (!(validSet b))) else undef), fun v _ => v = .bool ((!(validSet a)) || (!(validSet b)))] [[], [0], [1], [2], [3], [3, 4], [3, 5], [3, 6]] [7] rfl rfl rfl ⟨fun _ _ _ _ h => h, fun _ _ _ _ h => h, fun _ _ _ _ h => h, fun _ _ _ _ h => h, fun _ _ _ _ h => h, fun _ _ _ _ h => h, fun _ _ _ _ h => h, fun _ _ _ _ h => h, trivial⟩ ⟨?_, ?_, ?_, ?_, ?_, ?_, ?_, ?_, trivial⟩ ?_
  · intro W13 hW14
    refine gather_nil ?_
    refine opg_none rfl ?_
    exact op_move rfl rfl ⟨told rfl rfl rfl, (Below.refl _ _)⟩
  · intro W13 hW14
    rintro _ rfl
    refine gather_nil ?_
    refine opg_none rfl ?_
    have hB17 : Below w.heap.size w W13 := (below_step (Below.refl _ _) hW14)
    refine op_call ent28 rfl (rValidSet_spec (hs.ext (flat_lifts _) hB17)) rfl ?_
    rintro _ W18 ⟨rfl, hE19⟩
    exact ⟨told rfl rfl rfl, hE19⟩
  · intro W13 hW14
    rintro _ rfl
    refine gather_nil ?_
    refine opg_none rfl ?_
    exact op_not rfl rfl ⟨told rfl rfl rfl, (Below.refl _ _)⟩
  · intro W13 hW14
    rintro _ rfl
    refine gather_nil ?_
    refine opg_none rfl ?_
    exact op_move rfl rfl ⟨told rfl rfl rfl, (Below.refl _ _)⟩
  · intro W13 hW14
    rintro _ rfl
    refine gather_nil ?_
    refine opg_f1 rfl rfl (fun hg20 => ?_) (fun h => by rw [h, cond_false])
    exact op_move rfl rfl ⟨told rfl rfl (by rw [hg20, cond_true]), (Below.refl _ _)⟩
  · intro W13 hW14
    rintro _ rfl
    intro v21 (hv22 : v21 = bif (!(!(validSet a))) then (.slice A2 n2 c2) else undef)
    refine gather_nil ?_
    refine opg_f1 rfl rfl (fun hg23 => ?_) (fun h => by rw [h, cond_false])
    obtain rfl : v21 = .slice A2 n2 c2 := by rw [hv22, hg23, cond_true]
    have hB24 : Below w.heap.size w W13 := (below_step (Below.refl _ _) hW14)
    refine op_call ent28 rfl (rValidSet_spec (hs2.ext (flat_lifts _) hB24)) rfl ?_
    rintro _ W25 ⟨rfl, hE26⟩
    exact ⟨told rfl rfl (by rw [hg23, cond_true]), hE26⟩
  · intro W13 hW14
    rintro _ rfl
    intro v27 (hv28 : v27 = bif (!(!(validSet a))) then (.bool (validSet b)) else undef)
    refine gather_nil ?_
    refine opg_f1 rfl rfl (fun hg29 => ?_) (fun h => by rw [h, cond_false])
    obtain rfl : v27 = .bool (validSet b) := by rw [hv28, hg29, cond_true]
    exact op_not rfl rfl ⟨told rfl rfl (by rw [hg29, cond_true]), (Below.refl _ _)⟩
  · intro W13 hW14
    rintro _ rfl
    intro v30 (hv31 : v30 = bif (!(!(validSet a))) then (.bool (!(validSet b))) else undef)
    refine gather_nil ?_
    refine opg_none rfl ?_
    exact op_or rfl rfl rfl (fun h => by rw [hv31, (not_i h), cond_true]) rfl ⟨told rfl rfl rfl, (Below.refl _ _)⟩
  intro W32 hW33
  rintro _ rfl
  refine gather_nil ?_
  refine (then_norm ?_)
  refine wc_cond (b := (!(validSet a)) || (!(validSet b))) rfl (fun hc34 => ?_) (fun hc34 => ?_)
  · have hinv : ¬ (validSet a = true ∧ validSet b = true) := by intro h; rw [h.1, h.2] at hc34; cases hc34
    refine wc_seq ?_
    refine wc_region ?_
    refine wl_op rfl (op_assign rfl rfl ?_)
    refine wl_op rfl (op_assign rfl rfl ?_)
    refine wl_op rfl (op_assign rfl rfl ?_)
    refine (wl_done (then_norm ?_))
    refine wc_ret ?_
    refine (then_ret ?_)
    have hB35 : Below w.heap.size w W32 := (below_step (Below.refl _ _) hW33)
    refine ⟨[_, _, _], ⟨rfl, rfl, rfl, trivial⟩, ⟨none, 0, 0, ?_, (by rw [agree, if_neg hinv]; exact rd_nil _ _ _), hB35⟩⟩
    rw [agree, if_neg hinv]
    rfl
  · have hval : validSet a = true ∧ validSet b = true := by simpa using hc34
    obtain ⟨hva, hvb⟩ := hval
    refine wc_skip ?_
    refine (then_norm ?_)
    refine wc_seq ?_
    refine wc_region ?_
    refine wl_op rfl (op_move rfl rfl ?_)
    have hB36 : Below w.heap.size w W32 := (below_step (Below.refl _ _) hW33)
    refine wl_op rfl (op_call ent47 rfl (rpart_spec (hs.ext (flat_lifts _) hB36) (by omega)) rfl ?_)
    rintro _ W41 ⟨A137, n138, c139, rfl, hp40, hE42⟩
    rw [part_calls hva] at hp40
    refine wl_op rfl (op_move rfl rfl ?_)
    have hB43 : Below w.heap.size w W41 := (below_step hB36 hE42)
    refine wl_op rfl (op_call ent47 rfl (rpart_spec (hs2.ext (flat_lifts _) hB43) (by omega)) rfl ?_)
    rintro _ W48 ⟨A144, n145, c146, rfl, hp47, hE49⟩
    rw [part_calls hvb] at hp47
    refine wl_op rfl (op_assign rfl rfl ?_)
    refine wl_op rfl (op_assign rfl rfl ?_)
    refine (wl_done (then_norm ?_))
    refine WC.sub [(4, .slice none 0 0), (5, .int .i64 0), (6, .int .i64 0), (7, .slice A137 n138 c139), (8, .slice A144 n145 c146)] ⟨rfl, rfl, rfl, rfl, rfl, trivial⟩ ?_
    refine wc_seq ?_
    refine wc_region ?_
    refine wl_op rfl (op_move rfl rfl ?_)
    have hB50 : Below W41.heap.size W41 W48 := (below_step (Below.refl _ _) hE49)
    refine wl_op rfl (op_call ent48 rfl (rvalue_spec (hp40.ext (flat_lifts _) hB50)) rfl ?_)
    rintro _ W51 ⟨rfl, hE52⟩
    refine wl_op rfl (op_assign rfl rfl ?_)
    refine (wl_done (then_norm ?_))
    refine wc_seq ?_
    refine wc_seq ?_
    refine wc_region ?_
    refine wl_op rfl (op_move rfl rfl ?_)
    refine wl_op rfl (op_move rfl rfl ?_)
    have hB53 : Below W48.heap.size W48 W51 := (below_step (Below.refl _ _) hE52)
    refine wl_op rfl (op_call ent48 rfl (rvalue_spec (hp47.ext (flat_lifts _) hB53)) rfl ?_)
    rintro _ W54 ⟨rfl, hE55⟩
    refine wl_op rfl (op_gtr rfl rfl rfl ?_)
    refine (wl_done (then_norm ?_))
    refine wc_cond (b := decide (valueOf (agC b) 11 < valueOf (agC a) 11)) rfl (fun hc56 => ?_) (fun hc56 => ?_)
    · have hc56r := hc56
      have hc56 := of_decide_eq_true hc56
      refine wc_seq ?_
      refine wc_region ?_
      refine wl_op rfl (op_assign rfl rfl ?_)
      refine wl_op rfl (op_assign rfl rfl ?_)
      refine wl_op rfl (op_assign rfl rfl ?_)
      refine (wl_done (then_norm ?_))
      refine WC.sub [(4, .slice none 0 0), (5, .int .i64 11), (6, .int .i64 9), (7, .slice A137 n138 c139), (8, .slice A144 n145 c146), (9, .int .i64 (valueOf (agC a) 11))] ⟨rfl, rfl, rfl, rfl, rfl, rfl, trivial⟩ ?_
      refine wc_ret ?_
      refine (then_ret ?_)
      have hB57 : Below w.heap.size w W54 := (below_step (below_step (below_step hB43 hE49) hE52) hE55)
      have hag := agree_route hva hvb hc56
      refine ⟨[_, _, _], ⟨rfl, rfl, rfl, trivial⟩, ⟨none, 0, 0, ?_, (by rw [hag]; exact rd_nil _ _ _), hB57⟩⟩
      rw [hag]
      rfl
    · have hc56r := hc56
      have hc56 := of_decide_eq_false hc56
      refine wc_skip ?_
      refine (then_norm ?_)
      refine WC.sub [(4, .slice none 0 0), (5, .int .i64 0), (6, .int .i64 0), (7, .slice A137 n138 c139), (8, .slice A144 n145 c146), (9, .int .i64 (valueOf (agC a) 11))] ⟨rfl, rfl, rfl, rfl, rfl, rfl, trivial⟩ ?_
      refine wc_seq ?_
      refine wc_region ?_
      refine wl_op rfl (op_move rfl rfl ?_)
      have hB58 : Below W41.heap.size W41 W54 := (below_step (below_step hB50 hE52) hE55)
      refine wl_op rfl (op_call ent48 rfl (rvalue_spec (hp40.ext (flat_lifts _) hB58)) rfl ?_)
      rintro _ W59 ⟨rfl, hE60⟩
      refine wl_op rfl (op_assign rfl rfl ?_)
      refine (wl_done (then_norm ?_))
      refine wc_join (fun l' w' => ∃ (x : Int), Sub [(4, .slice none 0 0), (5, .int .i64 0), (6, .int .i64 0), (7, .slice A137 n138 c139), (8, .slice A144 n145 c146), (9, .int .i64 (valueOf (agC a) 11)), (10, .int .i64 x)] l' ∧ Below W59.heap.size W59 w' ∧ (x = limitOf (agC a) (agC b))) ?_ ?_
      · refine wc_seq ?_
        refine wc_region ?_
        refine wl_op rfl (op_move rfl rfl ?_)
        have hB62 : Below W48.heap.size W48 W59 := (below_step (below_step hB53 hE55) hE60)
        refine wl_op rfl (op_call ent48 rfl (rvalue_spec (hp47.ext (flat_lifts _) hB62)) rfl ?_)
        rintro _ W63 ⟨rfl, hE64⟩
        refine wl_op rfl (op_assign rfl rfl ?_)
        refine (wl_done (then_norm ?_))
        refine wc_seq ?_
        refine wc_text [(4, .slice none 0 0), (5, .int .i64 0), (6, .int .i64 0), (7, .slice A137 n138 c139), (8, .slice A144 n145 c146), (9, .int .i64 (valueOf (agC a) 11)), (10, .int .i64 (valueOf (agC a) 10)), (11, .int .i64 (valueOf (agC b) 10))] ⟨rfl, rfl, rfl, rfl, rfl, rfl, rfl, rfl, trivial⟩ [fun v _ => v = .int .i64 (valueOf (agC a) 10), fun v _ => v = .bool (decide (valueOf (agC a) 10 = 0)), fun v _ => v = .bool (decide (valueOf (agC a) 10 = 0)), fun v _ => v = (bif (!(decide (valueOf (agC a) 10 = 0))) then (.int .i64 (valueOf (agC b) 10)) else undef), fun v _ => v = (bif (!(decide (valueOf (agC a) 10 = 0))) then (.bool (!decide (valueOf (agC b) 10 = 0))) else undef), fun v _ => v = (bif (!(decide (valueOf (agC a) 10 = 0))) then (.bool (!decide (valueOf (agC b) 10 = 0))) else undef), fun v _ => v = (bif ((!(decide (valueOf (agC a) 10 = 0))) && (!decide (valueOf (agC b) 10 = 0))) then (.int .i64 (valueOf (agC b) 10)) else undef), fun v _ => v = (bif ((!(decide (valueOf (agC a) 10 = 0))) && (!decide (valueOf (agC b) 10 = 0))) then (.int .i64 (valueOf (agC a) 10)) else undef), fun v _ => v = (bif ((!(decide (valueOf (agC a) 10 = 0))) && (!decide (valueOf (agC b) 10 = 0))) then (.bool (decide (valueOf (agC b) 10 < valueOf (agC a) 10))) else undef), fun v _ => v = (bif (!(decide (valueOf (agC a) 10 = 0))) then (.bool ((!decide (valueOf (agC b) 10 = 0)) && (decide (valueOf (agC b) 10 < valueOf (agC a) 10)))) else undef), fun v _ => v = .bool ((decide (valueOf (agC a) 10 = 0)) || ((!decide (valueOf (agC b) 10 = 0)) && (decide (valueOf (agC b) 10 < valueOf (agC a) 10))))] [[], [0], [1], [2], [2, 3], [2, 4], [5], [5], [5, 6, 7], [2, 5, 8], [2, 9]] [10] rfl rfl rfl ⟨fun _ _ _ _ h => h, fun _ _ _ _ h => h, fun _ _ _ _ h => h, fun _ _ _ _ h => h, fun _ _ _ _ h => h, fun _ _ _ _ h => h, fun _ _ _ _ h => h, fun _ _ _ _ h => h, fun _ _ _ _ h => h, fun _ _ _ _ h => h, fun _ _ _ _ h => h, trivial⟩ ⟨?_, ?_, ?_, ?_, ?_, ?_, ?_, ?_, ?_, ?_, ?_, trivial⟩ ?_
        · intro W65 hW66
          refine gather_nil ?_
          refine opg_none rfl ?_
          exact op_move rfl rfl ⟨told rfl rfl rfl, (Below.refl _ _)⟩
        · intro W65 hW66
          rintro _ rfl
          refine gather_nil ?_
          refine opg_none rfl ?_
          exact op_eql rfl rfl rfl ⟨told rfl rfl rfl, (Below.refl _ _)⟩
        · intro W65 hW66
          rintro _ rfl
          refine gather_nil ?_
          refine opg_none rfl ?_
          exact op_move rfl rfl ⟨told rfl rfl rfl, (Below.refl _ _)⟩
        · intro W65 hW66
          rintro _ rfl
          refine gather_nil ?_
          refine opg_f1 rfl rfl (fun hg67 => ?_) (fun h => by rw [h, cond_false])
          exact op_move rfl rfl ⟨told rfl rfl (by rw [hg67, cond_true]), (Below.refl _ _)⟩
        · intro W65 hW66
          rintro _ rfl
          intro v68 (hv69 : v68 = bif (!(decide (valueOf (agC a) 10 = 0))) then (.int .i64 (valueOf (agC b) 10)) else undef)
          refine gather_nil ?_
          refine opg_f1 rfl rfl (fun hg70 => ?_) (fun h => by rw [h, cond_false])
          have hd71 := of_decide_eq_false (not_t hg70)
          obtain rfl : v68 = .int .i64 (valueOf (agC b) 10) := by rw [hv69, hg70, cond_true]
          exact op_neq rfl rfl rfl ⟨told rfl rfl (by rw [hg70, cond_true]), (Below.refl _ _)⟩
        · intro W65 hW66
          rintro _ rfl
          intro v72 (hv73 : v72 = bif (!(decide (valueOf (agC a) 10 = 0))) then (.bool (!decide (valueOf (agC b) 10 = 0))) else undef)
          refine gather_nil ?_
          refine opg_f1 rfl rfl (fun hg74 => ?_) (fun h => by rw [h, cond_false])
          obtain rfl : v72 = .bool (!decide (valueOf (agC b) 10 = 0)) := by rw [hv73, hg74, cond_true]
          exact op_move rfl rfl ⟨told rfl rfl (by rw [hg74, cond_true]), (Below.refl _ _)⟩
        · intro W65 hW66
          intro v75 (hv76 : v75 = bif (!(decide (valueOf (agC a) 10 = 0))) then (.bool (!decide (valueOf (agC b) 10 = 0))) else undef)
          refine gather_nil ?_
          refine opg_t rfl rfl hv76 (fun hg77 => ?_) (fun h => by rw [h, cond_false])
          obtain rfl : v75 = .bool (!decide (valueOf (agC b) 10 = 0)) := by rw [hv76, (and_l hg77), cond_true]
          exact op_move rfl rfl ⟨told rfl rfl (by rw [hg77, cond_true]), (Below.refl _ _)⟩
        · intro W65 hW66
          intro v78 (hv79 : v78 = bif (!(decide (valueOf (agC a) 10 = 0))) then (.bool (!decide (valueOf (agC b) 10 = 0))) else undef)
          refine gather_nil ?_
          refine opg_t rfl rfl hv79 (fun hg80 => ?_) (fun h => by rw [h, cond_false])
          obtain rfl : v78 = .bool (!decide (valueOf (agC b) 10 = 0)) := by rw [hv79, (and_l hg80), cond_true]
          exact op_move rfl rfl ⟨told rfl rfl (by rw [hg80, cond_true]), (Below.refl _ _)⟩
        · intro W65 hW66
          intro v81 (hv82 : v81 = bif (!(decide (valueOf (agC a) 10 = 0))) then (.bool (!decide (valueOf (agC b) 10 = 0))) else undef)
          intro v83 (hv84 : v83 = bif ((!(decide (valueOf (agC a) 10 = 0))) && (!decide (valueOf (agC b) 10 = 0))) then (.int .i64 (valueOf (agC b) 10)) else undef)
          intro v85 (hv86 : v85 = bif ((!(decide (valueOf (agC a) 10 = 0))) && (!decide (valueOf (agC b) 10 = 0))) then (.int .i64 (valueOf (agC a) 10)) else undef)
          refine gather_nil ?_
          refine opg_t rfl rfl hv82 (fun hg87 => ?_) (fun h => by rw [h, cond_false])
          have hd88 := of_decide_eq_false (not_t (and_l hg87))
          have hd89 := of_decide_eq_false (not_t (and_r hg87))
          obtain rfl : v81 = .bool (!decide (valueOf (agC b) 10 = 0)) := by rw [hv82, (and_l hg87), cond_true]
          obtain rfl : v83 = .int .i64 (valueOf (agC b) 10) := by rw [hv84, hg87, cond_true]
          obtain rfl : v85 = .int .i64 (valueOf (agC a) 10) := by rw [hv86, hg87, cond_true]
          exact op_lss rfl rfl rfl ⟨told rfl rfl (by rw [hg87, cond_true]), (Below.refl _ _)⟩
        · intro W65 hW66
          rintro _ rfl
          intro v90 (hv91 : v90 = bif (!(decide (valueOf (agC a) 10 = 0))) then (.bool (!decide (valueOf (agC b) 10 = 0))) else undef)
          intro v92 (hv93 : v92 = bif ((!(decide (valueOf (agC a) 10 = 0))) && (!decide (valueOf (agC b) 10 = 0))) then (.bool (decide (valueOf (agC b) 10 < valueOf (agC a) 10))) else undef)
          refine gather_nil ?_
          refine opg_f1 rfl rfl (fun hg94 => ?_) (fun h => by rw [h, cond_false])
          obtain rfl : v90 = .bool (!decide (valueOf (agC b) 10 = 0)) := by rw [hv91, hg94, cond_true]
          exact op_and rfl rfl rfl (fun h => by rw [hv93, (and_i hg94 h), cond_true]) rfl ⟨told rfl rfl (by rw [hg94, cond_true]), (Below.refl _ _)⟩
        · intro W65 hW66
          rintro _ rfl
          intro v95 (hv96 : v95 = bif (!(decide (valueOf (agC a) 10 = 0))) then (.bool ((!decide (valueOf (agC b) 10 = 0)) && (decide (valueOf (agC b) 10 < valueOf (agC a) 10)))) else undef)
          refine gather_nil ?_
          refine opg_none rfl ?_
          exact op_or rfl rfl rfl (fun h => by rw [hv96, (not_i h), cond_true]) rfl ⟨told rfl rfl rfl, (Below.refl _ _)⟩
        intro W97 hW98
        rintro _ rfl
        refine gather_nil ?_
        refine (then_norm ?_)
        refine wc_cond (b := (decide (valueOf (agC a) 10 = 0)) || ((!decide (valueOf (agC b) 10 = 0)) && (decide (valueOf (agC b) 10 < valueOf (agC a) 10)))) rfl (fun hc99 => ?_) (fun hc99 => ?_)
        · refine wc_region ?_
          refine wl_op rfl (op_move rfl rfl ?_)
          refine wl_op rfl (op_assign rfl rfl ?_)
          refine (wl_done (then_norm ?_))
          have hB100 : Below W59.heap.size W59 W97 := (below_step (below_step (Below.refl _ _) hE64) hW98)
          exact ⟨valueOf (agC b) 10, ⟨rfl, rfl, rfl, rfl, rfl, rfl, rfl, trivial⟩, hB100, (lim_rt hc99 (val_rng hvb 10 rfl).1)⟩
        · refine wc_skip ?_
          refine (then_norm ?_)
          have hB101 : Below W59.heap.size W59 W97 := (below_step (below_step (Below.refl _ _) hE64) hW98)
          exact ⟨valueOf (agC a) 10, ⟨rfl, rfl, rfl, rfl, rfl, rfl, rfl, trivial⟩, hB101, (lim_rf hc99)⟩
      · rintro l' W61 ⟨x, hsub, hE102, rfl⟩
        refine WC.sub _ hsub ?_
        refine wc_seq ?_
        refine wc_region ?_
        refine wl_op rfl (op_move rfl rfl ?_)
        have hB103 : Below W41.heap.size W41 W61 := (below_step (below_step hB58 hE60) hE102)
        refine wl_op rfl (op_call ent48 rfl (rvalue_spec (hp40.ext (flat_lifts _) hB103)) rfl ?_)
        rintro _ W104 ⟨rfl, hE105⟩
        refine wl_op rfl (op_assign rfl rfl ?_)
        refine (wl_done (then_norm ?_))
        refine wc_join (fun l' w' => ∃ (x : Int), Sub [(4, .slice none 0 0), (5, .int .i64 0), (6, .int .i64 0), (7, .slice A137 n138 c139), (8, .slice A144 n145 c146), (9, .int .i64 (valueOf (agC a) 11)), (10, .int .i64 (limitOf (agC a) (agC b))), (12, .int .i64 x)] l' ∧ Below W104.heap.size W104 w' ∧ (x = prioOf (agC a) (agC b))) ?_ ?_
        · refine wc_seq ?_
          refine wc_region ?_
          refine wl_op rfl (op_move rfl rfl ?_)
          have hB107 : Below W48.heap.size W48 W104 := (below_step (below_step (below_step (below_step hB53 hE55) hE60) hE102) hE105)
          refine wl_op rfl (op_call ent49 rfl (rhas_spec (hp47.ext (flat_lifts _) hB107)) rfl ?_)
          rintro _ W108 ⟨rfl, hE109⟩
          refine (wl_done (then_norm ?_))
          refine wc_cond (b := (agC b).any (fun p => decide (p.kind = 12))) rfl (fun hc110 => ?_) (fun hc110 => ?_)
          · refine wc_region ?_
            refine wl_op rfl (op_move rfl rfl ?_)
            refine wl_op rfl (op_move rfl rfl ?_)
            have hB111 : Below W48.heap.size W48 W108 := (below_step hB107 hE109)
            refine wl_op rfl (op_call ent48 rfl (rvalue_spec (hp47.ext (flat_lifts _) hB111)) rfl ?_)
            rintro _ W112 ⟨rfl, hE113⟩
            refine wl_op rfl (op_min rfl rfl rfl rfl ?_)
            refine wl_op rfl (op_assign rfl rfl ?_)
            refine (wl_done (then_norm ?_))
            have hB114 : Below W104.heap.size W104 W112 := (below_step (below_step (Below.refl _ _) hE109) hE113)
            exact ⟨(if valueOf (agC b) 12 < valueOf (agC a) 12 then valueOf (agC b) 12 else valueOf (agC a) 12), ⟨rfl, rfl, rfl, rfl, rfl, rfl, rfl, rfl, trivial⟩, hB114, (by unfold prioOf; rw [if_pos hc110])⟩
          · refine wc_skip ?_
            refine (then_norm ?_)
            have hB115 : Below W104.heap.size W104 W108 := (below_step (Below.refl _ _) hE109)
            exact ⟨valueOf (agC a) 12, ⟨rfl, rfl, rfl, rfl, rfl, rfl, rfl, rfl, trivial⟩, hB115, (by unfold prioOf; rw [if_neg (fun h => by rw [show hasPrio (agC b) = false from hc110] at h; cases h)])⟩
        · rintro l' W106 ⟨x, hsub, hE116, rfl⟩
          refine WC.sub _ hsub ?_
          refine wc_seq ?_
          refine wc_region ?_
          refine wl_op rfl (op_move rfl rfl ?_)
          have hB117 : Below W41.heap.size W41 W106 := (below_step (below_step hB103 hE105) hE116)
          refine wl_op rfl (op_call ent48 rfl (rvalue_spec (hp40.ext (flat_lifts _) hB117)) rfl ?_)
          rintro _ W118 ⟨rfl, hE119⟩
          refine wl_op rfl (op_assign rfl rfl ?_)
          refine (wl_done (then_norm ?_))
          refine wc_join (fun l' w' => ∃ (x : Int), Sub [(4, .slice none 0 0), (5, .int .i64 0), (6, .int .i64 0), (7, .slice A137 n138 c139), (8, .slice A144 n145 c146), (9, .int .i64 (valueOf (agC a) 11)), (10, .int .i64 (limitOf (agC a) (agC b))), (12, .int .i64 (prioOf (agC a) (agC b))), (13, .int .i64 x)] l' ∧ Below W118.heap.size W118 w' ∧ (x = orderOf (agC a) (agC b))) ?_ ?_
          · refine wc_seq ?_
            refine wc_region ?_
            refine wl_op rfl (op_move rfl rfl ?_)
            refine wl_op rfl (op_eql rfl rfl rfl ?_)
            refine (wl_done (then_norm ?_))
            refine wc_cond (b := decide (valueOf (agC a) 13 = 1)) rfl (fun hc121 => ?_) (fun hc121 => ?_)
            · have hc121r := hc121
              have hc121 := of_decide_eq_true hc121
              refine wc_region ?_
              refine wl_op rfl (op_move rfl rfl ?_)
              have hB122 : Below W48.heap.size W48 W118 := (below_step (below_step (below_step (below_step (below_step (below_step hB53 hE55) hE60) hE102) hE105) hE116) hE119)
              refine wl_op rfl (op_call ent48 rfl (rvalue_spec (hp47.ext (flat_lifts _) hB122)) rfl ?_)
              rintro _ W123 ⟨rfl, hE124⟩
              refine wl_op rfl (op_assign rfl rfl ?_)
              refine (wl_done (then_norm ?_))
              have hB125 : Below W118.heap.size W118 W123 := (below_step (Below.refl _ _) hE124)
              exact ⟨valueOf (agC b) 13, ⟨rfl, rfl, rfl, rfl, rfl, rfl, rfl, rfl, rfl, trivial⟩, hB125, (by unfold orderOf; rw [if_pos hc121])⟩
            · have hc121r := hc121
              have hc121 := of_decide_eq_false hc121
              refine wc_skip ?_
              refine (then_norm ?_)
              exact ⟨valueOf (agC a) 13, ⟨rfl, rfl, rfl, rfl, rfl, rfl, rfl, rfl, rfl, trivial⟩, (Below.refl _ _), (by unfold orderOf; rw [if_neg hc121])⟩
          · rintro l' W120 ⟨x, hsub, hE126, rfl⟩
            refine WC.sub _ hsub ?_
            refine wc_seq ?_
            refine wc_region ?_
            refine wl_op rfl (op_move rfl rfl ?_)
            have hB127 : Below W41.heap.size W41 W120 := (below_step (below_step hB117 hE119) hE126)
            refine wl_op rfl (op_call ent48 rfl (rvalue_spec (hp40.ext (flat_lifts _) hB127)) rfl ?_)
            rintro _ W128 ⟨rfl, hE129⟩
            refine wl_op rfl (op_move rfl rfl ?_)
            have hB130 : Below W48.heap.size W48 W128 := (below_step (below_step (below_step (below_step (below_step (below_step (below_step (below_step hB53 hE55) hE60) hE102) hE105) hE116) hE119) hE126) hE129)
            refine wl_op rfl (op_call ent48 rfl (rvalue_spec (hp47.ext (flat_lifts _) hB130)) rfl ?_)
            rintro _ W131 ⟨rfl, hE132⟩
            refine wl_op rfl (op_call ent50 rfl (rstronger_spec) rfl ?_)
            rintro _ W133 ⟨rfl, hE134⟩
            refine wl_op rfl (op_build (v := .agg #[.int .i64 8, .int .i64 (if strengthR 8 (valueOf (agC a) 8) < strengthR 8 (valueOf (agC b) 8) then (valueOf (agC b) 8) else (valueOf (agC a) 8))]) rfl (fun w => by kernel_rfl) rfl ?_)
            refine wl_op rfl (op_move rfl rfl ?_)
            have hB135 : Below W41.heap.size W41 W133 := (below_step (below_step (below_step hB127 hE129) hE132) hE134)
            refine wl_op rfl (op_call ent48 rfl (rvalue_spec (hp40.ext (flat_lifts _) hB135)) rfl ?_)
            rintro _ W136 ⟨rfl, hE137⟩
            refine wl_op rfl (op_move rfl rfl ?_)
            have hB138 : Below W48.heap.size W48 W136 := (below_step (below_step (below_step hB130 hE132) hE134) hE137)
            refine wl_op rfl (op_call ent48 rfl (rvalue_spec (hp47.ext (flat_lifts _) hB138)) rfl ?_)
            rintro _ W139 ⟨rfl, hE140⟩
            refine wl_op rfl (op_call ent50 rfl (rstronger_spec) rfl ?_)
            rintro _ W141 ⟨rfl, hE142⟩
            refine wl_op rfl (op_build (v := .agg #[.int .i64 9, .int .i64 (if strengthR 9 (valueOf (agC a) 9) < strengthR 9 (valueOf (agC b) 9) then (valueOf (agC b) 9) else (valueOf (agC a) 9))]) rfl (fun w => by kernel_rfl) rfl ?_)
            refine wl_op rfl (op_move rfl rfl ?_)
            refine wl_op rfl (op_build (v := .agg #[.int .i64 10, .int .i64 (limitOf (agC a) (agC b))]) rfl (fun w => by kernel_rfl) rfl ?_)
            refine wl_op rfl (op_move rfl rfl ?_)
            refine wl_op rfl (op_build (v := .agg #[.int .i64 11, .int .i64 (valueOf (agC a) 11)]) rfl (fun w => by kernel_rfl) rfl ?_)
            refine wl_op rfl (op_move rfl rfl ?_)
            refine wl_op rfl (op_build (v := .agg #[.int .i64 12, .int .i64 (prioOf (agC a) (agC b))]) rfl (fun w => by kernel_rfl) rfl ?_)
            refine wl_op rfl (op_move rfl rfl ?_)
            refine wl_op rfl (op_build (v := .agg #[.int .i64 13, .int .i64 (orderOf (agC a) (agC b))]) rfl (fun w => by kernel_rfl) rfl ?_)
            refine wl_op rfl (op_buildSlice (cs := #[.int .i64 8, .int .i64 (if strengthR 8 (valueOf (agC a) 8) < strengthR 8 (valueOf (agC b) 8) then (valueOf (agC b) 8) else (valueOf (agC a) 8)), .int .i64 9, .int .i64 (if strengthR 9 (valueOf (agC a) 9) < strengthR 9 (valueOf (agC b) 9) then (valueOf (agC b) 9) else (valueOf (agC a) 9)), .int .i64 10, .int .i64 (limitOf (agC a) (agC b)), .int .i64 11, .int .i64 (valueOf (agC a) 11), .int .i64 12, .int .i64 (prioOf (agC a) (agC b)), .int .i64 13, .int .i64 (orderOf (agC a) (agC b))]) (e := 46) rfl (fun w => by kernel_rfl) rfl ?_)
            intro W143 b144 hN145
            have hb146 : W143.heap[b144]? = some (.cells #[.int .i64 8, .int .i64 (if strengthR 8 (valueOf (agC a) 8) < strengthR 8 (valueOf (agC b) 8) then (valueOf (agC b) 8) else (valueOf (agC a) 8)), .int .i64 9, .int .i64 (if strengthR 9 (valueOf (agC a) 9) < strengthR 9 (valueOf (agC b) 9) then (valueOf (agC b) 9) else (valueOf (agC a) 9)), .int .i64 10, .int .i64 (limitOf (agC a) (agC b)), .int .i64 11, .int .i64 (valueOf (agC a) 11), .int .i64 12, .int .i64 (prioOf (agC a) (agC b)), .int .i64 13, .int .i64 (orderOf (agC a) (agC b))] 46 (0, 0)) := hN145.blk
            refine wl_op rfl (op_assign rfl rfl ?_)
            refine (wl_done (then_norm ?_))
            refine WC.sub [(4, .slice none 0 0), (5, .int .i64 0), (6, .int .i64 0), (14, .slice (some ⟨b144, 0, none⟩) 6 6)] ⟨rfl, rfl, rfl, rfl, trivial⟩ ?_
            refine wc_seq ?_
            refine wc_seq ?_
            refine wc_region ?_
            refine wl_op rfl (op_move rfl rfl ?_)
            refine wl_op rfl (op_call ent41 rfl (rclashes_spec (rd_of_blk (enc := encP) [(⟨8, if strengthR 8 (valueOf (agC a) 8) < strengthR 8 (valueOf (agC b) 8) then (valueOf (agC b) 8) else (valueOf (agC a) 8)⟩ : Pol), (⟨9, if strengthR 9 (valueOf (agC a) 9) < strengthR 9 (valueOf (agC b) 9) then (valueOf (agC b) 9) else (valueOf (agC a) 9)⟩ : Pol), (⟨10, limitOf (agC a) (agC b)⟩ : Pol), (⟨11, valueOf (agC a) 11⟩ : Pol), (⟨12, prioOf (agC a) (agC b)⟩ : Pol), (⟨13, orderOf (agC a) (agC b)⟩ : Pol)] hb146 (fun _ => rfl) rfl rfl rfl) (val_rng hva 11 rfl).1) rfl ?_)
            rintro _ W151 ⟨A1147, n1148, c1149, rfl, hp150, hE152⟩
            have hout : ([(⟨8, if strengthR 8 (valueOf (agC a) 8) < strengthR 8 (valueOf (agC b) 8) then (valueOf (agC b) 8) else (valueOf (agC a) 8)⟩ : Pol), (⟨9, if strengthR 9 (valueOf (agC a) 9) < strengthR 9 (valueOf (agC b) 9) then (valueOf (agC b) 9) else (valueOf (agC a) 9)⟩ : Pol), (⟨10, limitOf (agC a) (agC b)⟩ : Pol), (⟨11, valueOf (agC a) 11⟩ : Pol), (⟨12, prioOf (agC a) (agC b)⟩ : Pol), (⟨13, orderOf (agC a) (agC b)⟩ : Pol)] : List Pol) = agreed (agC a) (agC b) := by rw [cert_eq hva hvb]; rfl
            rw [hout] at hp150
            have hlen1 := hp150.len
            refine wl_op rfl (op_assign rfl rfl ?_)
            refine (wl_done (then_norm ?_))
            refine wc_seq ?_
            refine wc_region ?_
            refine wl_op rfl (op_move rfl rfl ?_)
            refine wl_op rfl (op_len_slice rfl rfl und25 rfl rfl ?_)
            refine wl_op rfl (op_gtr rfl rfl rfl ?_)
            refine (wl_done (then_norm ?_))
            refine wc_cond (b := decide (0 < ((n1148 : Nat) : Int))) rfl (fun hc153 => ?_) (fun hc153 => ?_)
            · have hc153r := hc153
              have hc153 := of_decide_eq_true hc153
              refine wc_seq ?_
              obtain ⟨bs156, os157, hA158, hc159⟩ := hp150.flat
              have hln160 := hp150.len
              have hbd161 := hp150.bd
              obtain ⟨x_hp150_0, hx_hp150_0⟩ : ∃ x, (clashList (agreed (agC a) (agC b)))[0]? = some x := ⟨_, List.getElem?_eq_getElem (by have := hp150.len; omega)⟩
              refine wc_draw mixed [(14, .slice (some ⟨b144, 0, none⟩) 6 6), (15, .slice A1147 n1148 c1149)] ⟨rfl, rfl, trivial⟩ [fun v _ => v = .slice A1147 n1148 c1149, fun v _ => v = .pointer (some ⟨bs156, os157 + 0 * 2, none⟩), fun v _ => v = .pointer (some ⟨bs156, os157 + 0 * 2 + 0 * 1, none⟩), fun v _ => v = .int .i64 x_hp150_0.1, fun v _ => v = .slice none 0 0, fun v _ => v = .int .i64 x_hp150_0.1, fun v _ => v = .int .i64 9] [[], [0], [1], [2], [], [3], []] [4, 5, 6] rfl rfl rfl ⟨fun _ _ _ _ h => h, fun _ _ _ _ h => h, fun _ _ _ _ h => h, fun _ _ _ _ h => h, fun _ _ _ _ h => h, fun _ _ _ _ h => h, fun _ _ _ _ h => h, trivial⟩ ⟨?_, ?_, ?_, ?_, ?_, ?_, ?_, trivial⟩ ?_
              · intro W154 hW155
                refine gather_nil ?_
                refine opg_none rfl ?_
                exact op_move rfl rfl ⟨told rfl rfl rfl, (Below.refl _ _)⟩
              · intro W154 hW155
                rintro _ rfl
                refine gather_nil ?_
                refine opg_none rfl ?_
                exact op_indexAddr (j := 0) rfl rfl und25 sz29 (hA158 (by omega)) rfl (by omega) rfl ⟨told rfl rfl rfl, (Below.refl _ _)⟩
              · intro W154 hW155
                rintro _ rfl
                refine gather_nil ?_
                refine opg_none rfl ?_
                exact op_indexArr (j := 0) rfl rfl und29 sz3 rfl (by omega) rfl ⟨told rfl rfl rfl, (Below.refl _ _)⟩
              · intro W154 hW155
                rintro _ rfl
                refine gather_nil ?_
                refine opg_none rfl ?_
                have hB163 : Below W151.heap.size W151 W154 := (below_step (Below.refl _ _) hW155)
                exact op_load1 (v := .int .i64 x_hp150_0.1) rfl agg3 (((hc159 0 x_hp150_0 hx_hp150_0).ext hB163).at (i := 0) rfl) rfl ⟨told rfl rfl rfl, (Below.refl _ _)⟩
              · intro W154 hW155
                refine gather_nil ?_
                refine opg_none rfl ?_
                exact op_assign rfl rfl ⟨told rfl rfl rfl, (Below.refl _ _)⟩
              · intro W154 hW155
                rintro _ rfl
                refine gather_nil ?_
                refine opg_none rfl ?_
                exact op_assign rfl rfl ⟨told rfl rfl rfl, (Below.refl _ _)⟩
              · intro W154 hW155
                refine gather_nil ?_
                refine opg_none rfl ?_
                exact op_assign rfl rfl ⟨told rfl rfl rfl, (Below.refl _ _)⟩
              intro W164 hW165
              rintro _ rfl
              rintro _ rfl
              rintro _ rfl
              refine gather_nil ?_
              refine (then_norm ?_)
              refine wc_ret ?_
              refine (then_ret ?_)
              have hB166 : Below w.heap.size w W164 := (below_step (below_step (below_new (below_step (below_step (below_step (below_step (below_step (below_step (below_step (below_step (below_step (below_step (below_step (below_step (below_step (below_step (below_step hB43 hE49) hE52) hE55) hE60) hE102) hE105) hE116) hE119) hE126) hE129) hE132) hE134) hE137) hE140) hE142) hN145) hE152) hW165)
              have hag := agree_clash_r hva hvb hc56 hx_hp150_0
              refine ⟨[_, _, _], ⟨rfl, rfl, rfl, trivial⟩, ⟨none, 0, 0, ?_, (by rw [hag]; exact rd_nil _ _ _), hB166⟩⟩
              rw [hag]
              rfl
            · have hc153r := hc153
              have hc153 := of_decide_eq_false hc153
              refine wc_skip ?_
              refine (then_norm ?_)
              refine WC.sub [(4, .slice none 0 0), (5, .int .i64 0), (6, .int .i64 0), (14, .slice (some ⟨b144, 0, none⟩) 6 6)] ⟨rfl, rfl, rfl, rfl, trivial⟩ ?_
              refine wc_seq ?_
              refine wc_region ?_
              refine wl_op rfl (op_move rfl rfl ?_)
              have hb167 : W151.heap[b144]? = some (.cells #[.int .i64 8, .int .i64 (if strengthR 8 (valueOf (agC a) 8) < strengthR 8 (valueOf (agC b) 8) then (valueOf (agC b) 8) else (valueOf (agC a) 8)), .int .i64 9, .int .i64 (if strengthR 9 (valueOf (agC a) 9) < strengthR 9 (valueOf (agC b) 9) then (valueOf (agC b) 9) else (valueOf (agC a) 9)), .int .i64 10, .int .i64 (limitOf (agC a) (agC b)), .int .i64 11, .int .i64 (valueOf (agC a) 11), .int .i64 12, .int .i64 (prioOf (agC a) (agC b)), .int .i64 13, .int .i64 (orderOf (agC a) (agC b))] 46 (0, 0)) := (blk_ext hb146 hE152)
              refine wl_op rfl (op_call ent51 rfl (rplain_spec (rd_of_blk (enc := encP) [(⟨8, if strengthR 8 (valueOf (agC a) 8) < strengthR 8 (valueOf (agC b) 8) then (valueOf (agC b) 8) else (valueOf (agC a) 8)⟩ : Pol), (⟨9, if strengthR 9 (valueOf (agC a) 9) < strengthR 9 (valueOf (agC b) 9) then (valueOf (agC b) 9) else (valueOf (agC a) 9)⟩ : Pol), (⟨10, limitOf (agC a) (agC b)⟩ : Pol), (⟨11, valueOf (agC a) 11⟩ : Pol), (⟨12, prioOf (agC a) (agC b)⟩ : Pol), (⟨13, orderOf (agC a) (agC b)⟩ : Pol)] hb167 (fun _ => rfl) rfl rfl rfl) (by omega)) rfl ?_)
              rintro _ W172 ⟨A1168, n1169, c1170, rfl, hp171, hE173⟩
              rw [hout] at hp171
              refine wl_op rfl (op_assign rfl rfl ?_)
              refine wl_op rfl (op_assign rfl rfl ?_)
              refine wl_op rfl (op_assign rfl rfl ?_)
              refine (wl_done (then_norm ?_))
              refine wc_ret ?_
              have hB174 : Below w.heap.size w W172 := (below_step (below_step (below_new (below_step (below_step (below_step (below_step (below_step (below_step (below_step (below_step (below_step (below_step (below_step (below_step (below_step (below_step (below_step hB43 hE49) hE52) hE55) hE60) hE102) hE105) hE116) hE119) hE126) hE129) hE132) hE134) hE137) hE140) hE142) hN145) hE152) hE173)
              have hag := agree_fine_r hva hvb hc56 (by omega)
              refine ⟨[_, _, _], ⟨rfl, rfl, rfl, trivial⟩, ⟨A1168, n1169, c1170, ?_, (by rw [hag]; exact hp171), hB174⟩⟩
              rw [hag]
              rfl

end Go.Eng

set_option linter.unusedVariables false
set_option maxRecDepth 100000
namespace Go.Eng
open Go.RowKit Go.Shelf Go.Proofs Pol

theorem und33 : Und Try.prog 33 (.slice 22) := by unfold Und; kernel_rfl
theorem sz22 : Sz Try.prog 22 1 := fun w => by kernel_rfl
theorem agg22 : AggT Try.prog 22 false := fun w => by kernel_rfl
theorem eq46 {a0 b0 : Int} {a1 b1 : Int} : EqT Try.prog 46 [.int .i64 a0, .int .i64 a1] [.int .i64 b0, .int .i64 b1] := ⟨by kernel_rfl, fun w => run_eqFlat (fs := (Try.prog.fieldsOf 46).toList) (by kernel_rfl) (by kernel_rfl) (by kernel_rfl) (by kernel_rfl)⟩

structure Hdr where
  A : Option Addr
  n : Nat
  c : Nat
abbrev encH (h : Hdr) : List Value := [.slice h.A h.n h.c]
abbrev RdH (w : World) (A : Option Addr) (n : Nat) (xs : List Hdr) : Prop := Rd (Flat encH) 1 w A n xs
def shortH (l : List Hdr) : Bool := l.all (fun h => !decide (200 < (h.n : Int)))
abbrev encI (k : Int) : List Value := [.int .i64 k]
abbrev RdI (w : World) (A : Option Addr) (n : Nat) (xs : List Int) : Prop := Rd (Flat encI) 1 w A n xs
theorem all_no {α : Type} {l : List α} {f : α → Bool} {i : Nat} {x : α} (h : l[i]? = some x) (hf : f x = false) : l.all f = false := by
  rw [Bool.eq_false_iff]; intro ha
  have := List.all_eq_true.1 ha x (List.mem_of_getElem? h)
  rw [hf] at this; cases this
theorem all_yes {α : Type} {l : List α} {f : α → Bool} (h : ∀ (i : Nat) (x : α), i < l.length → l[i]? = some x → f x = true) : l.all f = true := by
  rw [List.all_eq_true]; intro x hx
  obtain ⟨i, hi, rfl⟩ := List.getElem_of_mem hx
  exact h i _ hi (List.getElem?_eq_getElem hi)
theorem len_iff {α : Type} {a b : List α} (h : a = b) : a.length = b.length := by rw [h]
theorem getE_ne {α : Type} {a b : List α} {k : Nat} {x y : α} (hx : a[k]? = some x) (hy : b[k]? = some y) (h : ¬ x = y) : ¬ a = b := by
  rintro rfl; rw [hx] at hy; cases hy; exact h rfl
theorem all_succ_eq {α : Type} {a b : List α} {k : Nat} {x y : α} (h : ∀ i, i < k → a[i]? = b[i]?) (hx : a[k]? = some x) (hy : b[k]? = some y) (e : x = y) : ∀ i, i < k + 1 → a[i]? = b[i]? := by
  intro i hi
  rcases Nat.lt_or_ge i k with h1 | h1
  · exact h i h1
  · obtain rfl : i = k := by omega
    rw [hx, hy, e]
theorem eq_of_all {α : Type} {a b : List α} (hl : a.length = b.length) (h : ∀ i, i < a.length → a[i]? = b[i]?) : a = b := by
  apply List.ext_getElem? ; intro i
  rcases Nat.lt_or_ge i a.length with h1 | h1
  · exact h i h1
  · rw [List.getElem?_eq_none h1, List.getElem?_eq_none (by omega)]
def getV (s : List Pol) (k : Int) : Int := if validSet s = true ∧ isB k = true then valueOf s k else 0
def getE (s : List Pol) (k : Int) : Int := if validSet s = true then (if isB k = true then 0 else 10) else 1
theorem pol_ext {x y : Pol} (h : ((decide (x.kind = y.kind)) && (decide (x.val = y.val))) = true) : x = y := by
  cases x; cases y; simp at h; simp [h]
theorem pol_ne {x y : Pol} (h : ((decide (x.kind = y.kind)) && (decide (x.val = y.val))) = false) : ¬ x = y := by
  rintro rfl; simp at h

theorem short_spec {w : World} {A : Option Addr} {n c : Nat} {l : List Hdr} (hs : RdH w A n l) : Ret Try.prog 6 #[.slice A n c] w (fun v w' => v = .bool (shortH l) ∧ Below w.heap.size w w') := by
  obtain ⟨bs1, os2, hA3, hc4⟩ := hs.flat
  have hln5 := hs.len
  have hbd6 := hs.bd
  have hlen_l := hs.len
  refine ret_of (args := [.slice A n c]) Try.func6 rfl Try.ntmps6 rfl (rs := [.tmp 2]) rfl ?_
  refine wc_seq ?_
  refine wc_region ?_
  refine wl_op rfl (op_assign rfl rfl ?_)
  refine (wl_done (then_norm ?_))
  refine wc_seq ?_
  refine wc_seq ?_
  refine wc_region ?_
  refine wl_op rfl (op_move rfl rfl ?_)
  refine wl_op rfl (op_len_slice rfl rfl und33 rfl rfl ?_)
  refine wl_op rfl (op_move rfl rfl ?_)
  refine (wl_done (then_norm ?_))
  refine wc_block ?_
  refine wc_loop (σ := Nat × World) (fun st_ => [(2, .bool false), (5, .slice A n c), (6, .int .i64 ((n : Nat) : Int)), (7, .int .i64 (st_.1 : Int))]) (fun st_ => st_.2) (fun st_ => (st_.1 ≤ n) ∧ (∀ (i : Nat) (x : Hdr), i < st_.1 → l[i]? = some x → (!decide (200 < (x.n : Int))) = true) ∧ (Below w.heap.size w st_.2)) (fun st_ => n - st_.1) (0, w) ⟨(by first | omega | (dsimp only; omega)), (fun i x hi => absurd hi (by omega)), (Below.refl _ _)⟩ ⟨rfl, rfl, rfl, rfl, trivial⟩ rfl ?_
  rintro ⟨k, W7⟩ ⟨hk, hall, hE8⟩
  dsimp only at hk hall hE8
  refine wc_at [(2, .bool false), (5, .slice A n c), (6, .int .i64 ((n : Nat) : Int)), (7, .int .i64 (k : Int))] W7 ⟨rfl, rfl, rfl, rfl, trivial⟩ rfl ?_
  refine wc_seq ?_
  refine wc_region ?_
  refine wl_op rfl (op_lss rfl rfl rfl ?_)
  refine (wl_done (then_norm ?_))
  refine wc_seq ?_
  refine wc_cond (b := decide ((k : Int) < ((n : Nat) : Int))) rfl (fun hc9 => ?_) (fun hc9 => ?_)
  · have hc9r := hc9
    have hc9 := of_decide_eq_true hc9
    refine wc_skip ?_
    refine (then_norm ?_)
    refine wc_seq ?_
    refine wc_block ?_
    refine wc_seq ?_
    refine wc_region ?_
    obtain ⟨x_l_k, hx_l_k⟩ : ∃ x, l[k]? = some x := ⟨_, List.getElem?_eq_getElem (by have := hs.len; omega)⟩
    refine wl_op rfl (op_indexAddr (j := k) rfl rfl und33 sz22 (hA3 (by omega)) rfl (by omega) rfl ?_)
    have hB10 : Below w.heap.size w W7 := (below_step (Below.refl _ _) hE8)
    refine wl_op rfl (op_load1 (v := .slice x_l_k.A x_l_k.n x_l_k.c) rfl agg22 (((hc4 k x_l_k hx_l_k).ext hB10).at (i := 0) rfl) rfl ?_)
    refine wl_op rfl (op_assign rfl rfl ?_)
    refine (wl_done (then_norm ?_))
    refine wc_seq ?_
    refine wc_region ?_
    refine wl_op rfl (op_move rfl rfl ?_)
    refine wl_op rfl (op_len_slice rfl rfl und22 rfl rfl ?_)
    refine wl_op rfl (op_gtr rfl rfl rfl ?_)
    refine (wl_done (then_norm ?_))
    refine wc_cond (b := decide (200 < ((x_l_k.n : Nat) : Int))) rfl (fun hc11 => ?_) (fun hc11 => ?_)
    · have hc11r := hc11
      have hc11 := of_decide_eq_true hc11
      refine wc_seq ?_
      refine wc_region ?_
      refine wl_op rfl (op_assign rfl rfl ?_)
      refine (wl_done (then_norm ?_))
      refine wc_ret ?_
      refine (block_ret (then_ret (then_ret (block_ret (then_ret ?_)))))
      refine ⟨[_], ⟨rfl, trivial⟩, ⟨?_, hB10⟩⟩
      exact congrArg Value.bool (all_no (f := fun h : Hdr => !decide (200 < (h.n : Int))) hx_l_k (by rw [decide_eq_true hc11]; rfl)).symm
    · have hc11r := hc11
      have hc11 := of_decide_eq_false hc11
      refine wc_skip ?_
      refine (block_norm (then_norm ?_))
      refine wc_region ?_
      refine wl_op rfl (op_add (r := ((k + 1 : Nat) : Int)) rfl rfl (by omega) (by omega) rfl ?_)
      refine wl_op rfl (op_move rfl rfl ?_)
      refine (wl_done (then_norm ?_))
      refine ⟨((k + 1), W7), ⟨(by first | omega | (dsimp only; omega)), (fun i x hi hx => by rcases Nat.lt_or_ge i k with h | h; exact hall i x h hx; have e : i = k := (by dsimp only at hi; omega); subst e; rw [hx_l_k] at hx; cases hx; rw [decide_eq_false hc11]; rfl), hB10⟩, ?_, ⟨rfl, rfl, rfl, rfl, trivial⟩, rfl⟩
      · dsimp only; omega
  · have hc9r := hc9
    have hc9 := of_decide_eq_false hc9
    refine wc_exit ?_
    refine (then_exit (then_exit (block_here (then_norm ?_))))
    refine wc_seq ?_
    refine wc_region ?_
    refine wl_op rfl (op_assign rfl rfl ?_)
    refine (wl_done (then_norm ?_))
    refine wc_ret ?_
    have hB12 : Below w.heap.size w W7 := (below_step (Below.refl _ _) hE8)
    refine ⟨[_], ⟨rfl, trivial⟩, ⟨?_, hB12⟩⟩
    exact congrArg Value.bool (all_yes (f := fun h : Hdr => !decide (200 < (h.n : Int))) fun i x hi => hall i x (by omega)).symm

theorem same_spec {w : World} {A : Option Addr} {n c : Nat} {a : List Pol} {A2 : Option Addr} {n2 c2 : Nat} {b : List Pol} (hs : RdP w A n a) (hs2 : RdP w A2 n2 b) : Ret Try.prog 12 #[.slice A n c, .slice A2 n2 c2] w (fun v w' => v = .bool (decide (a = b)) ∧ Below w.heap.size w w') := by
  obtain ⟨bs1, os2, hA3, hc4⟩ := hs.flat
  have hln5 := hs.len
  have hbd6 := hs.bd
  have hlen_a := hs.len
  obtain ⟨bs7, os8, hA9, hc10⟩ := hs2.flat
  have hln11 := hs2.len
  have hbd12 := hs2.bd
  have hlen_b := hs2.len
  refine ret_of (args := [.slice A n c, .slice A2 n2 c2]) Try.func12 rfl Try.ntmps12 rfl (rs := [.tmp 4]) rfl ?_
  refine wc_seq ?_
  refine wc_region ?_
  refine wl_op rfl (op_assign rfl rfl ?_)
  refine (wl_done (then_norm ?_))
  refine wc_seq ?_
  refine wc_seq ?_
  refine wc_region ?_
  refine wl_op rfl (op_move rfl rfl ?_)
  refine wl_op rfl (op_len_slice rfl rfl und22 rfl rfl ?_)
  refine wl_op rfl (op_move rfl rfl ?_)
  refine wl_op rfl (op_len_slice rfl rfl und22 rfl rfl ?_)
  refine wl_op rfl (op_neq rfl rfl rfl ?_)
  refine (wl_done (then_norm ?_))
  refine wc_cond (b := !decide (((n : Nat) : Int) = ((n2 : Nat) : Int))) rfl (fun hc13 => ?_) (fun hc13 => ?_)
  · have hc13r := hc13
    have hc13 := of_decide_eq_false (not_t hc13)
    refine wc_seq ?_
    refine wc_region ?_
    refine wl_op rfl (op_assign rfl rfl ?_)
    refine (wl_done (then_norm ?_))
    refine wc_ret ?_
    refine (then_ret ?_)
    refine ⟨[_], ⟨rfl, trivial⟩, ⟨?_, (Below.refl _ _)⟩⟩
    exact congrArg Value.bool (decide_eq_false (fun h => by have := len_iff h; omega)).symm
  · have hc13r := hc13
    have hc13 := of_decide_eq_true (not_f hc13)
    refine wc_skip ?_
    refine (then_norm ?_)
    refine wc_seq ?_
    refine wc_seq ?_
    refine wc_region ?_
    refine wl_op rfl (op_move rfl rfl ?_)
    refine wl_op rfl (op_len_slice rfl rfl und22 rfl rfl ?_)
    refine wl_op rfl (op_move rfl rfl ?_)
    refine (wl_done (then_norm ?_))
    refine WC.sub [(0, .slice A n c), (1, .slice A2 n2 c2), (4, .bool false), (12, .int .i64 ((n : Nat) : Int)), (13, .int .i64 0)] ⟨rfl, rfl, rfl, rfl, rfl, trivial⟩ ?_
    refine wc_block ?_
    refine wc_loop (σ := Nat × World) (fun st_ => [(0, .slice A n c), (1, .slice A2 n2 c2), (4, .bool false), (12, .int .i64 ((n : Nat) : Int)), (13, .int .i64 (st_.1 : Int))]) (fun st_ => st_.2) (fun st_ => (st_.1 ≤ n) ∧ (∀ i, i < st_.1 → a[i]? = b[i]?) ∧ (Below w.heap.size w st_.2)) (fun st_ => n - st_.1) (0, w) ⟨(by first | omega | (dsimp only; omega)), (fun i hi => absurd hi (by omega)), (Below.refl _ _)⟩ ⟨rfl, rfl, rfl, rfl, rfl, trivial⟩ rfl ?_
    rintro ⟨k, W14⟩ ⟨hk, hall, hE15⟩
    dsimp only at hk hall hE15
    refine wc_at [(0, .slice A n c), (1, .slice A2 n2 c2), (4, .bool false), (12, .int .i64 ((n : Nat) : Int)), (13, .int .i64 (k : Int))] W14 ⟨rfl, rfl, rfl, rfl, rfl, trivial⟩ rfl ?_
    refine wc_seq ?_
    refine wc_region ?_
    refine wl_op rfl (op_lss rfl rfl rfl ?_)
    refine (wl_done (then_norm ?_))
    refine wc_seq ?_
    refine wc_cond (b := decide ((k : Int) < ((n : Nat) : Int))) rfl (fun hc16 => ?_) (fun hc16 => ?_)
    · have hc16r := hc16
      have hc16 := of_decide_eq_true hc16
      refine wc_skip ?_
      refine (then_norm ?_)
      refine wc_seq ?_
      refine wc_block ?_
      refine wc_seq ?_
      refine wc_region ?_
      refine wl_op rfl (op_move rfl rfl ?_)
      refine wl_op rfl (op_assign rfl rfl ?_)
      refine (wl_done (then_norm ?_))
      refine wc_seq ?_
      obtain ⟨x_a_k, hx_a_k⟩ : ∃ x, a[k]? = some x := ⟨_, List.getElem?_eq_getElem (by have := hs.len; omega)⟩
      obtain ⟨x_b_k, hx_b_k⟩ : ∃ x, b[k]? = some x := ⟨_, List.getElem?_eq_getElem (by have := hs2.len; omega)⟩
      refine wc_draw mixed [(0, .slice A n c), (1, .slice A2 n2 c2), (4, .bool false), (12, .int .i64 ((n : Nat) : Int)), (13, .int .i64 (k : Int)), (14, .bool (decide ((k : Int) < ((n : Nat) : Int)))), (15, .int .i64 (k : Int)), (5, .int .i64 (k : Int))] ⟨rfl, rfl, rfl, rfl, rfl, rfl, rfl, rfl, trivial⟩ [fun v _ => v = .slice A n c, fun v _ => v = .int .i64 (k : Int), fun v _ => v = .pointer (some ⟨bs1, os2 + k * 2, none⟩), fun v _ => v = .agg #[.int .i64 x_a_k.kind, .int .i64 x_a_k.val], fun v _ => v = .slice A2 n2 c2, fun v _ => v = .int .i64 (k : Int), fun v _ => v = .pointer (some ⟨bs7, os8 + k * 2, none⟩), fun v _ => v = .agg #[.int .i64 x_b_k.kind, .int .i64 x_b_k.val], fun v _ => v = .bool (!((decide (x_a_k.kind = x_b_k.kind)) && (decide (x_a_k.val = x_b_k.val))))] [[], [], [0, 1], [2], [], [], [4, 5], [6], [3, 7]] [0, 1, 2, 3, 4, 5, 6, 7, 8] rfl rfl rfl ⟨fun _ _ _ _ h => h, fun _ _ _ _ h => h, fun _ _ _ _ h => h, fun _ _ _ _ h => h, fun _ _ _ _ h => h, fun _ _ _ _ h => h, fun _ _ _ _ h => h, fun _ _ _ _ h => h, fun _ _ _ _ h => h, trivial⟩ ⟨?_, ?_, ?_, ?_, ?_, ?_, ?_, ?_, ?_, trivial⟩ ?_
      · intro W17 hW18
        refine gather_nil ?_
        refine opg_none rfl ?_
        exact op_move rfl rfl ⟨told rfl rfl rfl, (Below.refl _ _)⟩
      · intro W17 hW18
        refine gather_nil ?_
        refine opg_none rfl ?_
        exact op_move rfl rfl ⟨told rfl rfl rfl, (Below.refl _ _)⟩
      · intro W17 hW18
        rintro _ rfl
        rintro _ rfl
        refine gather_nil ?_
        refine opg_none rfl ?_
        exact op_indexAddr (j := k) rfl rfl und22 sz46 (hA3 (by omega)) rfl (by omega) rfl ⟨told rfl rfl rfl, (Below.refl _ _)⟩
      · intro W17 hW18
        rintro _ rfl
        refine gather_nil ?_
        refine opg_none rfl ?_
        have hB21 : Below w.heap.size w W17 := (below_step (below_step (Below.refl _ _) hE15) hW18)
        exact op_loadN (vs := [.int .i64 x_a_k.kind, .int .i64 x_a_k.val]) rfl agg46 sz46 rfl ((hc4 k x_a_k hx_a_k).ext hB21) rfl ⟨told rfl rfl rfl, (Below.refl _ _)⟩
      · intro W17 hW18
        refine gather_nil ?_
        refine opg_none rfl ?_
        exact op_move rfl rfl ⟨told rfl rfl rfl, (Below.refl _ _)⟩
      · intro W17 hW18
        refine gather_nil ?_
        refine opg_none rfl ?_
        exact op_move rfl rfl ⟨told rfl rfl rfl, (Below.refl _ _)⟩
      · intro W17 hW18
        rintro _ rfl
        rintro _ rfl
        refine gather_nil ?_
        refine opg_none rfl ?_
        exact op_indexAddr (j := k) rfl rfl und22 sz46 (hA9 (by omega)) rfl (by omega) rfl ⟨told rfl rfl rfl, (Below.refl _ _)⟩
      · intro W17 hW18
        rintro _ rfl
        refine gather_nil ?_
        refine opg_none rfl ?_
        have hB22 : Below w.heap.size w W17 := (below_step (below_step (Below.refl _ _) hE15) hW18)
        exact op_loadN (vs := [.int .i64 x_b_k.kind, .int .i64 x_b_k.val]) rfl agg46 sz46 rfl ((hc10 k x_b_k hx_b_k).ext hB22) rfl ⟨told rfl rfl rfl, (Below.refl _ _)⟩
      · intro W17 hW18
        rintro _ rfl
        rintro _ rfl
        refine gather_nil ?_
        refine opg_none rfl ?_
        exact op_neqA (X := [.int .i64 x_a_k.kind, .int .i64 x_a_k.val]) (Y := [.int .i64 x_b_k.kind, .int .i64 x_b_k.val]) (b := (decide (x_a_k.kind = x_b_k.kind)) && (decide (x_a_k.val = x_b_k.val))) rfl rfl eq46 rfl rfl ⟨told rfl rfl rfl, (Below.refl _ _)⟩
      intro W23 hW24
      rintro _ rfl
      rintro _ rfl
      rintro _ rfl
      rintro _ rfl
      rintro _ rfl
      rintro _ rfl
      rintro _ rfl
      rintro _ rfl
      rintro _ rfl
      refine gather_nil ?_
      refine (then_norm ?_)
      refine wc_cond (b := !((decide (x_a_k.kind = x_b_k.kind)) && (decide (x_a_k.val = x_b_k.val)))) rfl (fun hc25 => ?_) (fun hc25 => ?_)
      · refine wc_seq ?_
        refine wc_region ?_
        refine wl_op rfl (op_assign rfl rfl ?_)
        refine (wl_done (then_norm ?_))
        refine wc_ret ?_
        refine (block_ret (then_ret (then_ret (block_ret (then_ret ?_)))))
        have hB26 : Below w.heap.size w W23 := (below_step (below_step (Below.refl _ _) hE15) hW24)
        refine ⟨[_], ⟨rfl, trivial⟩, ⟨?_, hB26⟩⟩
        exact congrArg Value.bool (decide_eq_false (getE_ne hx_a_k hx_b_k (pol_ne (not_t hc25)))).symm
      · refine wc_skip ?_
        refine (block_norm (then_norm ?_))
        refine wc_region ?_
        refine wl_op rfl (op_add (r := ((k + 1 : Nat) : Int)) rfl rfl (by omega) (by omega) rfl ?_)
        refine wl_op rfl (op_move rfl rfl ?_)
        refine (wl_done (then_norm ?_))
        have hB27 : Below w.heap.size w W23 := (below_step (below_step (Below.refl _ _) hE15) hW24)
        refine ⟨((k + 1), W23), ⟨(by first | omega | (dsimp only; omega)), (all_succ_eq hall hx_a_k hx_b_k (pol_ext (not_f hc25))), hB27⟩, ?_, ⟨rfl, rfl, rfl, rfl, rfl, trivial⟩, rfl⟩
        · dsimp only; omega
    · have hc16r := hc16
      have hc16 := of_decide_eq_false hc16
      refine wc_exit ?_
      refine (then_exit (then_exit (block_here (then_norm ?_))))
      refine wc_seq ?_
      refine wc_region ?_
      refine wl_op rfl (op_assign rfl rfl ?_)
      refine (wl_done (then_norm ?_))
      refine wc_ret ?_
      have hB28 : Below w.heap.size w W14 := (below_step (Below.refl _ _) hE15)
      refine ⟨[_], ⟨rfl, trivial⟩, ⟨?_, hB28⟩⟩
      exact congrArg Value.bool (decide_eq_true (eq_of_all (by omega) (fun i hi => hall i (by omega)))).symm

theorem Get_spec {w : World} {A : Option Addr} {n c : Nat} {s : List Pol} {k : Int} (hs : RdP w A n s) : Ret Try.prog 13 #[.slice A n c, .int .i64 k] w (fun v w' => v = .tuple #[.int .i64 (getV s k), .int .i64 (getE s k)] ∧ Below w.heap.size w w') := by
  obtain ⟨bs1, os2, hA3, hc4⟩ := hs.flat
  have hln5 := hs.len
  have hbd6 := hs.bd
  have hlen_s := hs.len
  refine ret_of (args := [.slice A n c, .int .i64 k]) Try.func13 rfl Try.ntmps13 rfl (rs := [.tmp 4, .tmp 5]) rfl ?_
  refine wc_seq ?_
  refine wc_region ?_
  refine wl_op rfl (op_assign rfl rfl ?_)
  refine wl_op rfl (op_assign rfl rfl ?_)
  refine (wl_done (then_norm ?_))
  refine wc_seq ?_
  refine wc_block ?_
  refine wc_seq ?_
  refine wc_region ?_
  refine wl_op rfl (op_move rfl rfl ?_)
  refine wl_op rfl (op_call ent27 rfl (ValidSet_spec hs) rfl ?_)
  rintro _ W7 ⟨rfl, hE8⟩
  refine wl_op rfl (op_not rfl rfl ?_)
  refine wl_op rfl (op_assign rfl rfl ?_)
  refine (wl_done (then_norm ?_))
  refine wc_cond (b := !(validSet s)) rfl (fun hc9 => ?_) (fun hc9 => ?_)
  · have hv : validSet s = false := by simpa using hc9
    refine wc_seq ?_
    refine wc_region ?_
    refine wl_op rfl (op_assign rfl rfl ?_)
    refine wl_op rfl (op_assign rfl rfl ?_)
    refine (wl_done (then_norm ?_))
    refine wc_ret ?_
    refine (block_ret (then_ret ?_))
    have hB10 : Below w.heap.size w W7 := (below_step (Below.refl _ _) hE8)
    refine ⟨[_, _], ⟨rfl, rfl, trivial⟩, ⟨?_, hB10⟩⟩
    rw [getV, getE, if_neg (fun h => by rw [hv] at h; cases h.1), if_neg (by rw [hv]; decide)]
    rfl
  · have hv : validSet s = true := by simpa using hc9
    refine wc_seq ?_
    refine wc_region ?_
    refine wl_op rfl (op_move rfl rfl ?_)
    refine wl_op rfl (op_call ent52 rfl (is_spec) rfl ?_)
    rintro _ W11 ⟨rfl, hE12⟩
    refine wl_op rfl (op_not rfl rfl ?_)
    refine wl_op rfl (op_assign rfl rfl ?_)
    refine (wl_done (then_norm ?_))
    refine WC.sub [(0, .slice A n c), (1, .int .i64 k), (4, .int .i64 0), (5, .int .i64 0), (10, .bool (!(isB k)))] ⟨rfl, rfl, rfl, rfl, rfl, trivial⟩ ?_
    refine wc_cond (b := !(isB k)) rfl (fun hc13 => ?_) (fun hc13 => ?_)
    · have hb : isB k = false := by simpa using hc13
      refine wc_seq ?_
      refine wc_region ?_
      refine wl_op rfl (op_assign rfl rfl ?_)
      refine wl_op rfl (op_assign rfl rfl ?_)
      refine (wl_done (then_norm ?_))
      refine wc_ret ?_
      refine (block_ret (then_ret ?_))
      have hB14 : Below w.heap.size w W11 := (below_step (below_step (Below.refl _ _) hE8) hE12)
      refine ⟨[_, _], ⟨rfl, rfl, trivial⟩, ⟨?_, hB14⟩⟩
      rw [getV, getE, if_neg (fun h => by rw [hb] at h; cases h.2), if_pos hv, if_neg (by rw [hb]; decide)]
      rfl
    · have hb : isB k = true := by simpa using hc13
      refine wc_skip ?_
      refine (block_norm (then_norm ?_))
      refine wc_seq ?_
      refine wc_region ?_
      refine wl_op rfl (op_move rfl rfl ?_)
      refine wl_op rfl (op_move rfl rfl ?_)
      have hB15 : Below w.heap.size w W11 := (below_step (below_step (Below.refl _ _) hE8) hE12)
      refine wl_op rfl (op_call ent40 rfl (value_spec (hs.ext (flat_lifts _) hB15) (valid_asc hv) (isB_iff.1 hb).1 (isB_iff.1 hb).2) rfl ?_)
      rintro _ W16 ⟨rfl, hE17⟩
      refine wl_op rfl (op_assign rfl rfl ?_)
      refine wl_op rfl (op_assign rfl rfl ?_)
      refine (wl_done (then_norm ?_))
      refine WC.sub [(4, .int .i64 (valueOf s k)), (5, .int .i64 0)] ⟨rfl, rfl, trivial⟩ ?_
      refine wc_ret ?_
      have hB18 : Below w.heap.size w W16 := (below_step hB15 hE17)
      refine ⟨[_, _], ⟨rfl, rfl, trivial⟩, ⟨?_, hB18⟩⟩
      rw [getV, getE, if_pos ⟨hv, hb⟩, if_pos hv, if_pos hb]
      rfl

end Go.Eng

set_option linter.unusedVariables false
set_option maxRecDepth 100000
namespace Go.Eng
open Go.RowKit Go.Shelf Go.Proofs Pol

theorem ent10 : Enters Try.prog 10 := enters_of Try.func10 (by kernel_rfl) rfl
theorem agg29 : AggT Try.prog 29 true := fun w => by kernel_rfl
theorem eq29 {a0 b0 : Int} {a1 b1 : Int} : EqT Try.prog 29 [.int .i64 a0, .int .i64 a1] [.int .i64 b0, .int .i64 b1] := ⟨by kernel_rfl, fun w => run_eqArr (e := 3) (n := 2) (by kernel_rfl) (by kernel_rfl) (by kernel_rfl) (by kernel_rfl) (by kernel_rfl) (by kernel_rfl)⟩

def exQ : List (Int × Int) := [(5, 6)]
def exP : List Pol := [⟨10, 20⟩]
theorem clashL_ex : clashL [⟨5, 2⟩] = exQ := by decide
theorem chosenE_ex : chosenE [⟨5, 2⟩] = 0 := by decide
theorem agree_ex : agree [⟨10, 50⟩] [⟨10, 20⟩] = (exP, 0, 0) := by decide
theorem agree_ex1 : (agree [⟨10, 50⟩] [⟨10, 20⟩]).1 = exP := by rw [agree_ex]
theorem exQ_len : exQ.length = 1 := rfl
theorem exP_len : exP.length = 1 := rfl
theorem awake_ok {n1 n2 : Nat} {x : Int × Int} {y : Pol} (h1 : n1 = 1) (h2 : n2 = 1) (hx : 0 < exQ.length → exQ[0]? = some x) (hy : 0 < exP.length → exP[0]? = some y) :
    (decide (chosenE [⟨5, 2⟩] = 0) && decide ((n1 : Int) = 1) && (decide (x.1 = 5) && decide (x.2 = 6)) && decide ((agree [⟨10, 50⟩] [⟨10, 20⟩]).2.2 = 0) && decide ((n2 : Int) = 1) && (decide (y.kind = 10) && decide (y.val = 20))) = true := by
  have h3 := hx (by decide); have h4 := hy (by decide)
  cases h3; cases h4; subst h1; subst h2; rw [chosenE_ex, agree_ex]; rfl

theorem awake_spec {w : World} : Ret Try.prog 7 #[] w (fun v w' => v = .bool true ∧ Below w.heap.size w w') := by
  refine ret_of (args := []) Try.func7 rfl Try.ntmps7 rfl (rs := [.tmp 0]) rfl ?_
  refine wc_seq ?_
  refine wc_region ?_
  refine wl_op rfl (op_assign rfl rfl ?_)
  refine (wl_done (then_norm ?_))
  refine wc_seq ?_
  refine wc_region ?_
  refine wl_op rfl (op_build (v := .agg #[.int .i64 5, .int .i64 2]) rfl (fun w => by kernel_rfl) rfl ?_)
  refine wl_op rfl (op_buildSlice (cs := #[.int .i64 5, .int .i64 2]) (e := 46) rfl (fun w => by kernel_rfl) rfl ?_)
  intro W1 b2 hN3
  have hb4 : W1.heap[b2]? = some (.cells #[.int .i64 5, .int .i64 2] 46 (0, 0)) := hN3.blk
  refine wl_op rfl (op_call ent8 rfl (Clashes_spec (rd_of_blk (enc := encP) [(⟨5, 2⟩ : Pol)] hb4 (fun _ => rfl) rfl rfl rfl)) rfl ?_)
  rintro _ W9 ⟨A15, n16, c17, rfl, hp8, hE10⟩
  rw [clashL_ex] at hp8
  have hl1 := hp8.len.symm.trans exQ_len
  refine wl_op rfl (op_move rfl rfl ?_)
  refine wl_op rfl (op_extract (v := .slice A15 n16 c17) rfl rfl rfl ?_)
  refine wl_op rfl (op_extract (v := .int .i64 (chosenE [(⟨5, 2⟩ : Pol)])) rfl rfl rfl ?_)
  refine wl_op rfl (op_assign rfl rfl ?_)
  refine wl_op rfl (op_assign rfl rfl ?_)
  refine (wl_done (then_norm ?_))
  refine WC.sub [(0, .bool false), (1, .slice A15 n16 c17), (2, .int .i64 (chosenE [(⟨5, 2⟩ : Pol)]))] ⟨rfl, rfl, rfl, trivial⟩ ?_
  refine wc_seq ?_
  refine wc_region ?_
  refine wl_op rfl (op_build (v := .agg #[.int .i64 10, .int .i64 50]) rfl (fun w => by kernel_rfl) rfl ?_)
  refine wl_op rfl (op_buildSlice (cs := #[.int .i64 10, .int .i64 50]) (e := 46) rfl (fun w => by kernel_rfl) rfl ?_)
  intro W11 b12 hN13
  have hb14 : W11.heap[b12]? = some (.cells #[.int .i64 10, .int .i64 50] 46 (0, 0)) := hN13.blk
  refine wl_op rfl (op_build (v := .agg #[.int .i64 10, .int .i64 20]) rfl (fun w => by kernel_rfl) rfl ?_)
  refine wl_op rfl (op_buildSlice (cs := #[.int .i64 10, .int .i64 20]) (e := 46) rfl (fun w => by kernel_rfl) rfl ?_)
  intro W15 b16 hN17
  have hb18 : W15.heap[b16]? = some (.cells #[.int .i64 10, .int .i64 20] 46 (0, 0)) := hN17.blk
  have hb19 : W15.heap[b12]? = some (.cells #[.int .i64 10, .int .i64 50] 46 (0, 0)) := (blk_ext hb14 hN17.ext)
  refine wl_op rfl (op_call ent10 rfl (Agree_spec (rd_of_blk (enc := encP) [(⟨10, 50⟩ : Pol)] hb19 (fun _ => rfl) rfl rfl rfl) (rd_of_blk (enc := encP) [(⟨10, 20⟩ : Pol)] hb18 (fun _ => rfl) rfl rfl rfl) (by omega) (by omega)) rfl ?_)
  rintro _ W24 ⟨A120, n121, c122, rfl, hp23, hE25⟩
  rw [agree_ex1] at hp23
  have hl2 := hp23.len.symm.trans exP_len
  refine wl_op rfl (op_move rfl rfl ?_)
  refine wl_op rfl (op_extract (v := .slice A120 n121 c122) rfl rfl rfl ?_)
  refine wl_op rfl (op_extract (v := .int .i64 ((agree [(⟨10, 50⟩ : Pol)] [(⟨10, 20⟩ : Pol)]).2.1)) rfl rfl rfl ?_)
  refine wl_op rfl (op_extract (v := .int .i64 ((agree [(⟨10, 50⟩ : Pol)] [(⟨10, 20⟩ : Pol)]).2.2)) rfl rfl rfl ?_)
  refine wl_op rfl (op_assign rfl rfl ?_)
  refine wl_op rfl (op_assign rfl rfl ?_)
  refine wl_op rfl (op_assign rfl rfl ?_)
  refine (wl_done (then_norm ?_))
  refine WC.sub [(0, .bool false), (1, .slice A15 n16 c17), (2, .int .i64 (chosenE [(⟨5, 2⟩ : Pol)])), (3, .slice A120 n121 c122), (5, .int .i64 ((agree [(⟨10, 50⟩ : Pol)] [(⟨10, 20⟩ : Pol)]).2.2))] ⟨rfl, rfl, rfl, rfl, rfl, trivial⟩ ?_
  refine wc_seq ?_
  obtain ⟨bs28, os29, hA30, hc31⟩ := hp8.flat
  have hln32 := hp8.len
  have hbd33 := hp8.bd
  obtain ⟨x_exQ_0, hx_exQ_0⟩ : ∃ x, (0 < exQ.length → exQ[0]? = some x) := by
    by_cases h : 0 < exQ.length
    · exact ⟨_, fun _ => List.getElem?_eq_getElem h⟩
    · exact ⟨((0, 0) : Int × Int), fun h1 => absurd h1 h⟩
  obtain ⟨bs35, os36, hA37, hc38⟩ := hp23.flat
  have hln39 := hp23.len
  have hbd40 := hp23.bd
  obtain ⟨x_exP_0, hx_exP_0⟩ : ∃ x, (0 < exP.length → exP[0]? = some x) := by
    by_cases h : 0 < exP.length
    · exact ⟨_, fun _ => List.getElem?_eq_getElem h⟩
    · exact ⟨(⟨0, 0⟩ : Pol), fun h1 => absurd h1 h⟩
  refine wc_text [(1, .slice A15 n16 c17), (2, .int .i64 (chosenE [(⟨5, 2⟩ : Pol)])), (3, .slice A120 n121 c122), (5, .int .i64 ((agree [(⟨10, 50⟩ : Pol)] [(⟨10, 20⟩ : Pol)]).2.2))] ⟨rfl, rfl, rfl, rfl, trivial⟩ [fun v _ => v = .int .i64 (chosenE [(⟨5, 2⟩ : Pol)]), fun v _ => v = .bool (decide (chosenE [(⟨5, 2⟩ : Pol)] = 0)), fun v _ => v = .bool (decide (chosenE [(⟨5, 2⟩ : Pol)] = 0)), fun v _ => v = (bif (decide (chosenE [(⟨5, 2⟩ : Pol)] = 0)) then (.slice A15 n16 c17) else undef), fun v _ => v = (bif (decide (chosenE [(⟨5, 2⟩ : Pol)] = 0)) then (.int .i64 ((n16 : Nat) : Int)) else undef), fun v _ => v = (bif (decide (chosenE [(⟨5, 2⟩ : Pol)] = 0)) then (.bool (decide (((n16 : Nat) : Int) = 1))) else undef), fun v _ => v = .bool ((decide (chosenE [(⟨5, 2⟩ : Pol)] = 0)) && (decide (((n16 : Nat) : Int) = 1))), fun v _ => v = .bool ((decide (chosenE [(⟨5, 2⟩ : Pol)] = 0)) && (decide (((n16 : Nat) : Int) = 1))), fun v _ => v = (bif ((decide (chosenE [(⟨5, 2⟩ : Pol)] = 0)) && (decide (((n16 : Nat) : Int) = 1))) then (.slice A15 n16 c17) else undef), fun v _ => v = (bif ((decide (chosenE [(⟨5, 2⟩ : Pol)] = 0)) && (decide (((n16 : Nat) : Int) = 1))) then (.pointer (some ⟨bs28, os29 + 0 * 2, none⟩)) else undef), fun v _ => v = (bif ((decide (chosenE [(⟨5, 2⟩ : Pol)] = 0)) && (decide (((n16 : Nat) : Int) = 1))) then (.agg #[.int .i64 x_exQ_0.1, .int .i64 x_exQ_0.2]) else undef), fun v _ => v = (bif ((decide (chosenE [(⟨5, 2⟩ : Pol)] = 0)) && (decide (((n16 : Nat) : Int) = 1))) then (.agg #[.int .i64 5, .int .i64 6]) else undef), fun v _ => v = (bif ((decide (chosenE [(⟨5, 2⟩ : Pol)] = 0)) && (decide (((n16 : Nat) : Int) = 1))) then (.bool ((decide (x_exQ_0.1 = 5)) && (decide (x_exQ_0.2 = 6)))) else undef), fun v _ => v = .bool (((decide (chosenE [(⟨5, 2⟩ : Pol)] = 0)) && (decide (((n16 : Nat) : Int) = 1))) && ((decide (x_exQ_0.1 = 5)) && (decide (x_exQ_0.2 = 6)))), fun v _ => v = .bool (((decide (chosenE [(⟨5, 2⟩ : Pol)] = 0)) && (decide (((n16 : Nat) : Int) = 1))) && ((decide (x_exQ_0.1 = 5)) && (decide (x_exQ_0.2 = 6)))), fun v _ => v = (bif (((decide (chosenE [(⟨5, 2⟩ : Pol)] = 0)) && (decide (((n16 : Nat) : Int) = 1))) && ((decide (x_exQ_0.1 = 5)) && (decide (x_exQ_0.2 = 6)))) then (.int .i64 ((agree [(⟨10, 50⟩ : Pol)] [(⟨10, 20⟩ : Pol)]).2.2)) else undef), fun v _ => v = (bif (((decide (chosenE [(⟨5, 2⟩ : Pol)] = 0)) && (decide (((n16 : Nat) : Int) = 1))) && ((decide (x_exQ_0.1 = 5)) && (decide (x_exQ_0.2 = 6)))) then (.bool (decide ((agree [(⟨10, 50⟩ : Pol)] [(⟨10, 20⟩ : Pol)]).2.2 = 0))) else undef), fun v _ => v = .bool ((((decide (chosenE [(⟨5, 2⟩ : Pol)] = 0)) && (decide (((n16 : Nat) : Int) = 1))) && ((decide (x_exQ_0.1 = 5)) && (decide (x_exQ_0.2 = 6)))) && (decide ((agree [(⟨10, 50⟩ : Pol)] [(⟨10, 20⟩ : Pol)]).2.2 = 0))), fun v _ => v = .bool ((((decide (chosenE [(⟨5, 2⟩ : Pol)] = 0)) && (decide (((n16 : Nat) : Int) = 1))) && ((decide (x_exQ_0.1 = 5)) && (decide (x_exQ_0.2 = 6)))) && (decide ((agree [(⟨10, 50⟩ : Pol)] [(⟨10, 20⟩ : Pol)]).2.2 = 0))), fun v _ => v = (bif ((((decide (chosenE [(⟨5, 2⟩ : Pol)] = 0)) && (decide (((n16 : Nat) : Int) = 1))) && ((decide (x_exQ_0.1 = 5)) && (decide (x_exQ_0.2 = 6)))) && (decide ((agree [(⟨10, 50⟩ : Pol)] [(⟨10, 20⟩ : Pol)]).2.2 = 0))) then (.slice A120 n121 c122) else undef), fun v _ => v = (bif ((((decide (chosenE [(⟨5, 2⟩ : Pol)] = 0)) && (decide (((n16 : Nat) : Int) = 1))) && ((decide (x_exQ_0.1 = 5)) && (decide (x_exQ_0.2 = 6)))) && (decide ((agree [(⟨10, 50⟩ : Pol)] [(⟨10, 20⟩ : Pol)]).2.2 = 0))) then (.int .i64 ((n121 : Nat) : Int)) else undef), fun v _ => v = (bif ((((decide (chosenE [(⟨5, 2⟩ : Pol)] = 0)) && (decide (((n16 : Nat) : Int) = 1))) && ((decide (x_exQ_0.1 = 5)) && (decide (x_exQ_0.2 = 6)))) && (decide ((agree [(⟨10, 50⟩ : Pol)] [(⟨10, 20⟩ : Pol)]).2.2 = 0))) then (.bool (decide (((n121 : Nat) : Int) = 1))) else undef), fun v _ => v = .bool (((((decide (chosenE [(⟨5, 2⟩ : Pol)] = 0)) && (decide (((n16 : Nat) : Int) = 1))) && ((decide (x_exQ_0.1 = 5)) && (decide (x_exQ_0.2 = 6)))) && (decide ((agree [(⟨10, 50⟩ : Pol)] [(⟨10, 20⟩ : Pol)]).2.2 = 0))) && (decide (((n121 : Nat) : Int) = 1))), fun v _ => v = .bool (((((decide (chosenE [(⟨5, 2⟩ : Pol)] = 0)) && (decide (((n16 : Nat) : Int) = 1))) && ((decide (x_exQ_0.1 = 5)) && (decide (x_exQ_0.2 = 6)))) && (decide ((agree [(⟨10, 50⟩ : Pol)] [(⟨10, 20⟩ : Pol)]).2.2 = 0))) && (decide (((n121 : Nat) : Int) = 1))), fun v _ => v = (bif (((((decide (chosenE [(⟨5, 2⟩ : Pol)] = 0)) && (decide (((n16 : Nat) : Int) = 1))) && ((decide (x_exQ_0.1 = 5)) && (decide (x_exQ_0.2 = 6)))) && (decide ((agree [(⟨10, 50⟩ : Pol)] [(⟨10, 20⟩ : Pol)]).2.2 = 0))) && (decide (((n121 : Nat) : Int) = 1))) then (.slice A120 n121 c122) else undef), fun v _ => v = (bif (((((decide (chosenE [(⟨5, 2⟩ : Pol)] = 0)) && (decide (((n16 : Nat) : Int) = 1))) && ((decide (x_exQ_0.1 = 5)) && (decide (x_exQ_0.2 = 6)))) && (decide ((agree [(⟨10, 50⟩ : Pol)] [(⟨10, 20⟩ : Pol)]).2.2 = 0))) && (decide (((n121 : Nat) : Int) = 1))) then (.pointer (some ⟨bs35, os36 + 0 * 2, none⟩)) else undef), fun v _ => v = (bif (((((decide (chosenE [(⟨5, 2⟩ : Pol)] = 0)) && (decide (((n16 : Nat) : Int) = 1))) && ((decide (x_exQ_0.1 = 5)) && (decide (x_exQ_0.2 = 6)))) && (decide ((agree [(⟨10, 50⟩ : Pol)] [(⟨10, 20⟩ : Pol)]).2.2 = 0))) && (decide (((n121 : Nat) : Int) = 1))) then (.agg #[.int .i64 x_exP_0.kind, .int .i64 x_exP_0.val]) else undef), fun v _ => v = (bif (((((decide (chosenE [(⟨5, 2⟩ : Pol)] = 0)) && (decide (((n16 : Nat) : Int) = 1))) && ((decide (x_exQ_0.1 = 5)) && (decide (x_exQ_0.2 = 6)))) && (decide ((agree [(⟨10, 50⟩ : Pol)] [(⟨10, 20⟩ : Pol)]).2.2 = 0))) && (decide (((n121 : Nat) : Int) = 1))) then (.agg #[.int .i64 10, .int .i64 20]) else undef), fun v _ => v = (bif (((((decide (chosenE [(⟨5, 2⟩ : Pol)] = 0)) && (decide (((n16 : Nat) : Int) = 1))) && ((decide (x_exQ_0.1 = 5)) && (decide (x_exQ_0.2 = 6)))) && (decide ((agree [(⟨10, 50⟩ : Pol)] [(⟨10, 20⟩ : Pol)]).2.2 = 0))) && (decide (((n121 : Nat) : Int) = 1))) then (.bool ((decide (x_exP_0.kind = 10)) && (decide (x_exP_0.val = 20)))) else undef), fun v _ => v = .bool ((((((decide (chosenE [(⟨5, 2⟩ : Pol)] = 0)) && (decide (((n16 : Nat) : Int) = 1))) && ((decide (x_exQ_0.1 = 5)) && (decide (x_exQ_0.2 = 6)))) && (decide ((agree [(⟨10, 50⟩ : Pol)] [(⟨10, 20⟩ : Pol)]).2.2 = 0))) && (decide (((n121 : Nat) : Int) = 1))) && ((decide (x_exP_0.kind = 10)) && (decide (x_exP_0.val = 20)))), fun v _ => v = .bool ((((((decide (chosenE [(⟨5, 2⟩ : Pol)] = 0)) && (decide (((n16 : Nat) : Int) = 1))) && ((decide (x_exQ_0.1 = 5)) && (decide (x_exQ_0.2 = 6)))) && (decide ((agree [(⟨10, 50⟩ : Pol)] [(⟨10, 20⟩ : Pol)]).2.2 = 0))) && (decide (((n121 : Nat) : Int) = 1))) && ((decide (x_exP_0.kind = 10)) && (decide (x_exP_0.val = 20))))] [[], [0], [1], [2], [2, 3], [2, 4], [2, 5], [6], [7], [7, 8], [7, 9], [7], [7, 10, 11], [7, 12], [13], [14], [14, 15], [14, 16], [17], [18], [18, 19], [18, 20], [18, 21], [22], [23], [23, 24], [23, 25], [23], [23, 26, 27], [23, 28], [29]] [30] rfl rfl rfl ⟨fun _ _ _ _ h => h, fun _ _ _ _ h => h, fun _ _ _ _ h => h, fun _ _ _ _ h => h, fun _ _ _ _ h => h, fun _ _ _ _ h => h, fun _ _ _ _ h => h, fun _ _ _ _ h => h, fun _ _ _ _ h => h, fun _ _ _ _ h => h, fun _ _ _ _ h => h, fun _ _ _ _ h => h, fun _ _ _ _ h => h, fun _ _ _ _ h => h, fun _ _ _ _ h => h, fun _ _ _ _ h => h, fun _ _ _ _ h => h, fun _ _ _ _ h => h, fun _ _ _ _ h => h, fun _ _ _ _ h => h, fun _ _ _ _ h => h, fun _ _ _ _ h => h, fun _ _ _ _ h => h, fun _ _ _ _ h => h, fun _ _ _ _ h => h, fun _ _ _ _ h => h, fun _ _ _ _ h => h, fun _ _ _ _ h => h, fun _ _ _ _ h => h, fun _ _ _ _ h => h, fun _ _ _ _ h => h, trivial⟩ ⟨?_, ?_, ?_, ?_, ?_, ?_, ?_, ?_, ?_, ?_, ?_, ?_, ?_, ?_, ?_, ?_, ?_, ?_, ?_, ?_, ?_, ?_, ?_, ?_, ?_, ?_, ?_, ?_, ?_, ?_, ?_, trivial⟩ ?_
  · intro W26 hW27
    refine gather_nil ?_
    refine opg_none rfl ?_
    exact op_move rfl rfl ⟨told rfl rfl rfl, (Below.refl _ _)⟩
  · intro W26 hW27
    rintro _ rfl
    refine gather_nil ?_
    refine opg_none rfl ?_
    exact op_eql rfl rfl rfl ⟨told rfl rfl rfl, (Below.refl _ _)⟩
  · intro W26 hW27
    rintro _ rfl
    refine gather_nil ?_
    refine opg_none rfl ?_
    exact op_move rfl rfl ⟨told rfl rfl rfl, (Below.refl _ _)⟩
  · intro W26 hW27
    rintro _ rfl
    refine gather_nil ?_
    refine opg_t1 rfl rfl (fun hg42 => ?_) (fun h => by rw [h, cond_false])
    exact op_move rfl rfl ⟨told rfl rfl (by rw [hg42, cond_true]), (Below.refl _ _)⟩
  · intro W26 hW27
    rintro _ rfl
    intro v43 (hv44 : v43 = bif (decide (chosenE [(⟨5, 2⟩ : Pol)] = 0)) then (.slice A15 n16 c17) else undef)
    refine gather_nil ?_
    refine opg_t1 rfl rfl (fun hg45 => ?_) (fun h => by rw [h, cond_false])
    have hd46 := of_decide_eq_true hg45
    obtain rfl : v43 = .slice A15 n16 c17 := by rw [hv44, hg45, cond_true]
    exact op_len_slice rfl rfl und25 rfl rfl ⟨told rfl rfl (by rw [hg45, cond_true]), (Below.refl _ _)⟩
  · intro W26 hW27
    rintro _ rfl
    intro v47 (hv48 : v47 = bif (decide (chosenE [(⟨5, 2⟩ : Pol)] = 0)) then (.int .i64 ((n16 : Nat) : Int)) else undef)
    refine gather_nil ?_
    refine opg_t1 rfl rfl (fun hg49 => ?_) (fun h => by rw [h, cond_false])
    have hd50 := of_decide_eq_true hg49
    obtain rfl : v47 = .int .i64 ((n16 : Nat) : Int) := by rw [hv48, hg49, cond_true]
    exact op_eql rfl rfl rfl ⟨told rfl rfl (by rw [hg49, cond_true]), (Below.refl _ _)⟩
  · intro W26 hW27
    rintro _ rfl
    intro v51 (hv52 : v51 = bif (decide (chosenE [(⟨5, 2⟩ : Pol)] = 0)) then (.bool (decide (((n16 : Nat) : Int) = 1))) else undef)
    refine gather_nil ?_
    refine opg_none rfl ?_
    exact op_and rfl rfl rfl (fun h => by rw [hv52, h, cond_true]) rfl ⟨told rfl rfl rfl, (Below.refl _ _)⟩
  · intro W26 hW27
    rintro _ rfl
    refine gather_nil ?_
    refine opg_none rfl ?_
    exact op_move rfl rfl ⟨told rfl rfl rfl, (Below.refl _ _)⟩
  · intro W26 hW27
    rintro _ rfl
    refine gather_nil ?_
    refine opg_t1 rfl rfl (fun hg53 => ?_) (fun h => by rw [h, cond_false])
    exact op_move rfl rfl ⟨told rfl rfl (by rw [hg53, cond_true]), (Below.refl _ _)⟩
  · intro W26 hW27
    rintro _ rfl
    intro v54 (hv55 : v54 = bif ((decide (chosenE [(⟨5, 2⟩ : Pol)] = 0)) && (decide (((n16 : Nat) : Int) = 1))) then (.slice A15 n16 c17) else undef)
    refine gather_nil ?_
    refine opg_t1 rfl rfl (fun hg56 => ?_) (fun h => by rw [h, cond_false])
    obtain rfl : v54 = .slice A15 n16 c17 := by rw [hv55, hg56, cond_true]
    exact op_indexAddr (j := 0) rfl rfl und25 sz29 (hA30 (by omega)) rfl (by omega) rfl ⟨told rfl rfl (by rw [hg56, cond_true]), (Below.refl _ _)⟩
  · intro W26 hW27
    rintro _ rfl
    intro v57 (hv58 : v57 = bif ((decide (chosenE [(⟨5, 2⟩ : Pol)] = 0)) && (decide (((n16 : Nat) : Int) = 1))) then (.pointer (some ⟨bs28, os29 + 0 * 2, none⟩)) else undef)
    refine gather_nil ?_
    refine opg_t1 rfl rfl (fun hg59 => ?_) (fun h => by rw [h, cond_false])
    obtain rfl : v57 = .pointer (some ⟨bs28, os29 + 0 * 2, none⟩) := by rw [hv58, hg59, cond_true]
    have hB60 : Below W9.heap.size W9 W26 := (below_step (below_step (below_new (below_new (Below.refl _ _) hN13) hN17) hE25) hW27)
    exact op_loadN (vs := [.int .i64 x_exQ_0.1, .int .i64 x_exQ_0.2]) rfl agg29 sz29 rfl ((hc31 0 x_exQ_0 (hx_exQ_0 (by have := hp8.len; omega))).ext hB60) rfl ⟨told rfl rfl (by rw [hg59, cond_true]), (Below.refl _ _)⟩
  · intro W26 hW27
    rintro _ rfl
    refine gather_nil ?_
    refine opg_t1 rfl rfl (fun hg61 => ?_) (fun h => by rw [h, cond_false])
    exact op_build (v := .agg #[.int .i64 5, .int .i64 6]) rfl (fun w => by kernel_rfl) rfl ⟨told rfl rfl (by rw [hg61, cond_true]), (Below.refl _ _)⟩
  · intro W26 hW27
    rintro _ rfl
    intro v62 (hv63 : v62 = bif ((decide (chosenE [(⟨5, 2⟩ : Pol)] = 0)) && (decide (((n16 : Nat) : Int) = 1))) then (.agg #[.int .i64 x_exQ_0.1, .int .i64 x_exQ_0.2]) else undef)
    intro v64 (hv65 : v64 = bif ((decide (chosenE [(⟨5, 2⟩ : Pol)] = 0)) && (decide (((n16 : Nat) : Int) = 1))) then (.agg #[.int .i64 5, .int .i64 6]) else undef)
    refine gather_nil ?_
    refine opg_t1 rfl rfl (fun hg66 => ?_) (fun h => by rw [h, cond_false])
    obtain rfl : v62 = .agg #[.int .i64 x_exQ_0.1, .int .i64 x_exQ_0.2] := by rw [hv63, hg66, cond_true]
    obtain rfl : v64 = .agg #[.int .i64 5, .int .i64 6] := by rw [hv65, hg66, cond_true]
    exact op_eqlA (X := [.int .i64 x_exQ_0.1, .int .i64 x_exQ_0.2]) (Y := [.int .i64 5, .int .i64 6]) (b := (decide (x_exQ_0.1 = 5)) && (decide (x_exQ_0.2 = 6))) rfl rfl eq29 rfl rfl ⟨told rfl rfl (by rw [hg66, cond_true]), (Below.refl _ _)⟩
  · intro W26 hW27
    rintro _ rfl
    intro v67 (hv68 : v67 = bif ((decide (chosenE [(⟨5, 2⟩ : Pol)] = 0)) && (decide (((n16 : Nat) : Int) = 1))) then (.bool ((decide (x_exQ_0.1 = 5)) && (decide (x_exQ_0.2 = 6)))) else undef)
    refine gather_nil ?_
    refine opg_none rfl ?_
    exact op_and rfl rfl rfl (fun h => by rw [hv68, h, cond_true]) rfl ⟨told rfl rfl rfl, (Below.refl _ _)⟩
  · intro W26 hW27
    rintro _ rfl
    refine gather_nil ?_
    refine opg_none rfl ?_
    exact op_move rfl rfl ⟨told rfl rfl rfl, (Below.refl _ _)⟩
  · intro W26 hW27
    rintro _ rfl
    refine gather_nil ?_
    refine opg_t1 rfl rfl (fun hg69 => ?_) (fun h => by rw [h, cond_false])
    exact op_move rfl rfl ⟨told rfl rfl (by rw [hg69, cond_true]), (Below.refl _ _)⟩
  · intro W26 hW27
    rintro _ rfl
    intro v70 (hv71 : v70 = bif (((decide (chosenE [(⟨5, 2⟩ : Pol)] = 0)) && (decide (((n16 : Nat) : Int) = 1))) && ((decide (x_exQ_0.1 = 5)) && (decide (x_exQ_0.2 = 6)))) then (.int .i64 ((agree [(⟨10, 50⟩ : Pol)] [(⟨10, 20⟩ : Pol)]).2.2)) else undef)
    refine gather_nil ?_
    refine opg_t1 rfl rfl (fun hg72 => ?_) (fun h => by rw [h, cond_false])
    obtain rfl : v70 = .int .i64 ((agree [(⟨10, 50⟩ : Pol)] [(⟨10, 20⟩ : Pol)]).2.2) := by rw [hv71, hg72, cond_true]
    exact op_eql rfl rfl rfl ⟨told rfl rfl (by rw [hg72, cond_true]), (Below.refl _ _)⟩
  · intro W26 hW27
    rintro _ rfl
    intro v73 (hv74 : v73 = bif (((decide (chosenE [(⟨5, 2⟩ : Pol)] = 0)) && (decide (((n16 : Nat) : Int) = 1))) && ((decide (x_exQ_0.1 = 5)) && (decide (x_exQ_0.2 = 6)))) then (.bool (decide ((agree [(⟨10, 50⟩ : Pol)] [(⟨10, 20⟩ : Pol)]).2.2 = 0))) else undef)
    refine gather_nil ?_
    refine opg_none rfl ?_
    exact op_and rfl rfl rfl (fun h => by rw [hv74, h, cond_true]) rfl ⟨told rfl rfl rfl, (Below.refl _ _)⟩
  · intro W26 hW27
    rintro _ rfl
    refine gather_nil ?_
    refine opg_none rfl ?_
    exact op_move rfl rfl ⟨told rfl rfl rfl, (Below.refl _ _)⟩
  · intro W26 hW27
    rintro _ rfl
    refine gather_nil ?_
    refine opg_t1 rfl rfl (fun hg75 => ?_) (fun h => by rw [h, cond_false])
    exact op_move rfl rfl ⟨told rfl rfl (by rw [hg75, cond_true]), (Below.refl _ _)⟩
  · intro W26 hW27
    rintro _ rfl
    intro v76 (hv77 : v76 = bif ((((decide (chosenE [(⟨5, 2⟩ : Pol)] = 0)) && (decide (((n16 : Nat) : Int) = 1))) && ((decide (x_exQ_0.1 = 5)) && (decide (x_exQ_0.2 = 6)))) && (decide ((agree [(⟨10, 50⟩ : Pol)] [(⟨10, 20⟩ : Pol)]).2.2 = 0))) then (.slice A120 n121 c122) else undef)
    refine gather_nil ?_
    refine opg_t1 rfl rfl (fun hg78 => ?_) (fun h => by rw [h, cond_false])
    obtain rfl : v76 = .slice A120 n121 c122 := by rw [hv77, hg78, cond_true]
    exact op_len_slice rfl rfl und22 rfl rfl ⟨told rfl rfl (by rw [hg78, cond_true]), (Below.refl _ _)⟩
  · intro W26 hW27
    rintro _ rfl
    intro v79 (hv80 : v79 = bif ((((decide (chosenE [(⟨5, 2⟩ : Pol)] = 0)) && (decide (((n16 : Nat) : Int) = 1))) && ((decide (x_exQ_0.1 = 5)) && (decide (x_exQ_0.2 = 6)))) && (decide ((agree [(⟨10, 50⟩ : Pol)] [(⟨10, 20⟩ : Pol)]).2.2 = 0))) then (.int .i64 ((n121 : Nat) : Int)) else undef)
    refine gather_nil ?_
    refine opg_t1 rfl rfl (fun hg81 => ?_) (fun h => by rw [h, cond_false])
    obtain rfl : v79 = .int .i64 ((n121 : Nat) : Int) := by rw [hv80, hg81, cond_true]
    exact op_eql rfl rfl rfl ⟨told rfl rfl (by rw [hg81, cond_true]), (Below.refl _ _)⟩
  · intro W26 hW27
    rintro _ rfl
    intro v82 (hv83 : v82 = bif ((((decide (chosenE [(⟨5, 2⟩ : Pol)] = 0)) && (decide (((n16 : Nat) : Int) = 1))) && ((decide (x_exQ_0.1 = 5)) && (decide (x_exQ_0.2 = 6)))) && (decide ((agree [(⟨10, 50⟩ : Pol)] [(⟨10, 20⟩ : Pol)]).2.2 = 0))) then (.bool (decide (((n121 : Nat) : Int) = 1))) else undef)
    refine gather_nil ?_
    refine opg_none rfl ?_
    exact op_and rfl rfl rfl (fun h => by rw [hv83, h, cond_true]) rfl ⟨told rfl rfl rfl, (Below.refl _ _)⟩
  · intro W26 hW27
    rintro _ rfl
    refine gather_nil ?_
    refine opg_none rfl ?_
    exact op_move rfl rfl ⟨told rfl rfl rfl, (Below.refl _ _)⟩
  · intro W26 hW27
    rintro _ rfl
    refine gather_nil ?_
    refine opg_t1 rfl rfl (fun hg84 => ?_) (fun h => by rw [h, cond_false])
    exact op_move rfl rfl ⟨told rfl rfl (by rw [hg84, cond_true]), (Below.refl _ _)⟩
  · intro W26 hW27
    rintro _ rfl
    intro v85 (hv86 : v85 = bif (((((decide (chosenE [(⟨5, 2⟩ : Pol)] = 0)) && (decide (((n16 : Nat) : Int) = 1))) && ((decide (x_exQ_0.1 = 5)) && (decide (x_exQ_0.2 = 6)))) && (decide ((agree [(⟨10, 50⟩ : Pol)] [(⟨10, 20⟩ : Pol)]).2.2 = 0))) && (decide (((n121 : Nat) : Int) = 1))) then (.slice A120 n121 c122) else undef)
    refine gather_nil ?_
    refine opg_t1 rfl rfl (fun hg87 => ?_) (fun h => by rw [h, cond_false])
    obtain rfl : v85 = .slice A120 n121 c122 := by rw [hv86, hg87, cond_true]
    exact op_indexAddr (j := 0) rfl rfl und22 sz46 (hA37 (by omega)) rfl (by omega) rfl ⟨told rfl rfl (by rw [hg87, cond_true]), (Below.refl _ _)⟩
  · intro W26 hW27
    rintro _ rfl
    intro v88 (hv89 : v88 = bif (((((decide (chosenE [(⟨5, 2⟩ : Pol)] = 0)) && (decide (((n16 : Nat) : Int) = 1))) && ((decide (x_exQ_0.1 = 5)) && (decide (x_exQ_0.2 = 6)))) && (decide ((agree [(⟨10, 50⟩ : Pol)] [(⟨10, 20⟩ : Pol)]).2.2 = 0))) && (decide (((n121 : Nat) : Int) = 1))) then (.pointer (some ⟨bs35, os36 + 0 * 2, none⟩)) else undef)
    refine gather_nil ?_
    refine opg_t1 rfl rfl (fun hg90 => ?_) (fun h => by rw [h, cond_false])
    obtain rfl : v88 = .pointer (some ⟨bs35, os36 + 0 * 2, none⟩) := by rw [hv89, hg90, cond_true]
    have hB91 : Below W24.heap.size W24 W26 := (below_step (Below.refl _ _) hW27)
    exact op_loadN (vs := [.int .i64 x_exP_0.kind, .int .i64 x_exP_0.val]) rfl agg46 sz46 rfl ((hc38 0 x_exP_0 (hx_exP_0 (by have := hp23.len; omega))).ext hB91) rfl ⟨told rfl rfl (by rw [hg90, cond_true]), (Below.refl _ _)⟩
  · intro W26 hW27
    rintro _ rfl
    refine gather_nil ?_
    refine opg_t1 rfl rfl (fun hg92 => ?_) (fun h => by rw [h, cond_false])
    exact op_build (v := .agg #[.int .i64 10, .int .i64 20]) rfl (fun w => by kernel_rfl) rfl ⟨told rfl rfl (by rw [hg92, cond_true]), (Below.refl _ _)⟩
  · intro W26 hW27
    rintro _ rfl
    intro v93 (hv94 : v93 = bif (((((decide (chosenE [(⟨5, 2⟩ : Pol)] = 0)) && (decide (((n16 : Nat) : Int) = 1))) && ((decide (x_exQ_0.1 = 5)) && (decide (x_exQ_0.2 = 6)))) && (decide ((agree [(⟨10, 50⟩ : Pol)] [(⟨10, 20⟩ : Pol)]).2.2 = 0))) && (decide (((n121 : Nat) : Int) = 1))) then (.agg #[.int .i64 x_exP_0.kind, .int .i64 x_exP_0.val]) else undef)
    intro v95 (hv96 : v95 = bif (((((decide (chosenE [(⟨5, 2⟩ : Pol)] = 0)) && (decide (((n16 : Nat) : Int) = 1))) && ((decide (x_exQ_0.1 = 5)) && (decide (x_exQ_0.2 = 6)))) && (decide ((agree [(⟨10, 50⟩ : Pol)] [(⟨10, 20⟩ : Pol)]).2.2 = 0))) && (decide (((n121 : Nat) : Int) = 1))) then (.agg #[.int .i64 10, .int .i64 20]) else undef)
    refine gather_nil ?_
    refine opg_t1 rfl rfl (fun hg97 => ?_) (fun h => by rw [h, cond_false])
    obtain rfl : v93 = .agg #[.int .i64 x_exP_0.kind, .int .i64 x_exP_0.val] := by rw [hv94, hg97, cond_true]
    obtain rfl : v95 = .agg #[.int .i64 10, .int .i64 20] := by rw [hv96, hg97, cond_true]
    exact op_eqlA (X := [.int .i64 x_exP_0.kind, .int .i64 x_exP_0.val]) (Y := [.int .i64 10, .int .i64 20]) (b := (decide (x_exP_0.kind = 10)) && (decide (x_exP_0.val = 20))) rfl rfl eq46 rfl rfl ⟨told rfl rfl (by rw [hg97, cond_true]), (Below.refl _ _)⟩
  · intro W26 hW27
    rintro _ rfl
    intro v98 (hv99 : v98 = bif (((((decide (chosenE [(⟨5, 2⟩ : Pol)] = 0)) && (decide (((n16 : Nat) : Int) = 1))) && ((decide (x_exQ_0.1 = 5)) && (decide (x_exQ_0.2 = 6)))) && (decide ((agree [(⟨10, 50⟩ : Pol)] [(⟨10, 20⟩ : Pol)]).2.2 = 0))) && (decide (((n121 : Nat) : Int) = 1))) then (.bool ((decide (x_exP_0.kind = 10)) && (decide (x_exP_0.val = 20)))) else undef)
    refine gather_nil ?_
    refine opg_none rfl ?_
    exact op_and rfl rfl rfl (fun h => by rw [hv99, h, cond_true]) rfl ⟨told rfl rfl rfl, (Below.refl _ _)⟩
  · intro W26 hW27
    rintro _ rfl
    refine gather_nil ?_
    refine opg_none rfl ?_
    exact op_assign rfl rfl ⟨told rfl rfl rfl, (Below.refl _ _)⟩
  intro W100 hW101
  rintro _ rfl
  refine gather_nil ?_
  refine (then_norm ?_)
  refine wc_ret ?_
  have hB102 : Below w.heap.size w W100 := (below_step (below_step (below_new (below_new (below_step (below_new (Below.refl _ _) hN3) hE10) hN13) hN17) hE25) hW101)
  refine ⟨[_], ⟨rfl, trivial⟩, ⟨?_, hB102⟩⟩
  exact congrArg Value.bool (awake_ok hl1 hl2 hx_exQ_0 hx_exP_0)

end Go.Eng

set_option linter.unusedVariables false
set_option maxRecDepth 100000
namespace Go.Eng
open Go.RowKit Go.Shelf Go.Proofs Pol



theorem valid_of {s : List Pol} (ha : Asc s) (hv : ∀ p, p ∈ s → validB p = true) : validSet s = true := by
  rw [validSet_iff]; intro i hi
  have hp : s[i]? = some s[i] := List.getElem?_eq_getElem hi
  have h1 := hv _ (List.getElem_mem hi)
  by_cases h0 : i = 0
  · subst h0; simp [okAt, hp, h1]
  · have hq : s[i - 1]? = some s[i - 1] := List.getElem?_eq_getElem (by omega)
    have := ha.up (i - 1) i _ _ (by omega) hq hp
    simp [okAt, hp, hq, h1, this]
theorem chosen_set {s : List Pol} (hv : validSet s = true) (f : Pol → Bool) : validSet (chosenL s f) = true := valid_of (asc_chosen hv f) (chosen_valid hv f)
theorem valueOf_mem {s : List Pol} (h : Asc s) {x : Pol} {k : Int} (hx : x ∈ s) (hk : x.kind = k) : valueOf s k = x.val := by
  obtain ⟨i, hi, rfl⟩ := List.getElem_of_mem hx
  exact valueOf_some h (List.getElem?_eq_getElem hi) hk
theorem valueOf_no {s : List Pol} {k : Int} (h : ∀ x, x ∈ s → ¬ x.kind = k) : valueOf s k = leastI k := by
  have hf : s.find? (fun p => decide (p.kind = k)) = none := by
    rw [List.find?_eq_none]; intro x hx; simpa using h x hx
  rw [valueOf, hf]
theorem valueOf_filter {s : List Pol} (ha : Asc s) {f : Pol → Bool} {k : Int} (hf : ∀ x, x ∈ s → x.kind = k → f x = false → x.val = leastI k) : valueOf (s.filter f) k = valueOf s k := by
  by_cases h : ∃ x, x ∈ s ∧ x.kind = k
  · obtain ⟨x, hx, hk⟩ := h
    rw [valueOf_mem ha hx hk]
    cases hfx : f x with
    | true => exact valueOf_mem (asc_filter ha f) (List.mem_filter.2 ⟨hx, hfx⟩) hk
    | false =>
      rw [hf x hx hk hfx]
      refine valueOf_no fun y hy hyk => ?_
      obtain ⟨hy1, hy2⟩ := List.mem_filter.1 hy
      have e1 := valueOf_mem ha hx hk
      have e2 := valueOf_mem ha hy1 hyk
      have : x = y := by
        cases x; cases y
        simp only at hk hyk e1 e2
        rw [← hk] at hyk; subst hyk; rw [← e1, e2]
      subst this; rw [hfx] at hy2; cases hy2
  · have h1 : ∀ x, x ∈ s → ¬ x.kind = k := fun x hx hk => h ⟨x, hx, hk⟩
    rw [valueOf_no h1, valueOf_no fun x hx => h1 x (List.mem_filter.1 hx).1]
theorem valueOf_plain {s : List Pol} (hv : validSet s = true) (k : Int) : valueOf (chosenL s keepPlain) k = valueOf s k := by
  rw [chosenL, if_pos hv]
  refine valueOf_filter (valid_asc hv) fun x hx hk hf => ?_
  subst hk
  simpa [keepPlain] using hf
theorem valueOf_calls {s : List Pol} (hv : validSet s = true) {k : Int} (hk : 8 ≤ k) : valueOf (agC s) k = valueOf s k := by
  rw [agC, chosenL, if_pos hv]
  refine valueOf_filter (valid_asc hv) fun x hx hk' hf => ?_
  simp [keepCalls] at hf
  omega
theorem agree_ok {a b : List Pol} (h : (agree a b).2.2 = 0) : validSet a = true ∧ validSet b = true ∧ clashL (agreed (agC a) (agC b)) = [] ∧ (agree a b).1 = chosenL (agreed (agC a) (agC b)) keepPlain := by
  unfold agree at h ⊢
  split at h
  · rename_i hv
    rw [if_pos hv]
    split at h
    · cases h
    · rename_i hr
      rw [if_neg hr]
      split at h
      · cases h
      · rename_i hc
        exact ⟨hv.1, hv.2, hc, rfl⟩
  · cases h
theorem clash_plain {s : List Pol} (hv : validSet s = true) : clashL (chosenL s keepPlain) = clashL s := by
  rw [clashL, clashL, if_pos (chosen_set hv _), if_pos hv]
  have e : badOf (chosenL s keepPlain) = badOf s := by funext r; rw [badOf, badOf, valueOf_plain hv, valueOf_plain hv]
  rw [clashList, clashList, e]
section
variable {a b : List Pol} (hg : (agree a b).2.2 = 0)
include hg
theorem okX_valid : validSet (agree a b).1 = true := by
  obtain ⟨h1, h2, h3, h4⟩ := agree_ok hg
  rw [h4]; exact chosen_set (agreed_valid h1 h2) _
theorem okX_E : chosenE (agree a b).1 = 0 := chosenE_0.2 (okX_valid hg)
theorem okX_clash : clashL (agree a b).1 = [] := by
  obtain ⟨h1, h2, h3, h4⟩ := agree_ok hg
  rw [h4, clash_plain (agreed_valid h1 h2), h3]
theorem okX_get {k : Int} (hk : isB k = true) : getV (agree a b).1 k = valueOf (agreed (agC a) (agC b)) k := by
  obtain ⟨h1, h2, h3, h4⟩ := agree_ok hg
  rw [getV, if_pos ⟨okX_valid hg, hk⟩, h4, valueOf_plain (agreed_valid h1 h2)]
theorem okS_get {s : List Pol} (hs : s = a ∨ s = b) {k : Int} (h8 : 8 ≤ k) (hk : isB k = true) : getV s k = valueOf (agC s) k := by
  obtain ⟨h1, h2, h3, h4⟩ := agree_ok hg
  have hv : validSet s = true := by rcases hs with rfl | rfl <;> assumption
  rw [getV, if_pos ⟨hv, hk⟩, valueOf_calls hv h8]
theorem strong_ok {s : List Pol} (hs : s = a ∨ s = b) {k : Int} (hk : k = 8 ∨ k = 9) : ¬ strengthR k (getV (agree a b).1 k) < strengthR k (getV s k) := by
  obtain ⟨ha, hb, h3, h4⟩ := agree_ok hg
  rcases hk with rfl | rfl
  · rw [okX_get hg rfl, okS_get hg hs (by decide) rfl]
    have e : valueOf (agreed (agC a) (agC b)) 8 = rebindOf (agC a) (agC b) := rfl
    have e2 : ∀ v, strengthR 8 v = v := fun v => rfl
    rw [e, e2, e2, rebindOf]
    rcases hs with rfl | rfl <;> split <;> omega
  · rw [okX_get hg rfl, okS_get hg hs (by decide) rfl]
    have e : valueOf (agreed (agC a) (agC b)) 9 = certOf (agC a) (agC b) := rfl
    have h1 : 1 ≤ valueOf (agC a) 9 ∧ valueOf (agC a) 9 ≤ 4 := val_rng ha 9 rfl
    have h2 : 1 ≤ valueOf (agC b) 9 ∧ valueOf (agC b) 9 ≤ 4 := val_rng hb 9 rfl
    rw [e, certOf]
    have hs' : valueOf (agC s) 9 = valueOf (agC a) 9 ∨ valueOf (agC s) 9 = valueOf (agC b) 9 := by rcases hs with rfl | rfl; exact .inl rfl; exact .inr rfl
    generalize valueOf (agC s) 9 = z at *
    generalize valueOf (agC a) 9 = x at *
    generalize valueOf (agC b) 9 = y at *
    have hx : x = 1 ∨ x = 2 ∨ x = 3 ∨ x = 4 := by omega
    have hy : y = 1 ∨ y = 2 ∨ y = 3 ∨ y = 4 := by omega
    rcases hx with rfl | rfl | rfl | rfl <;> rcases hy with rfl | rfl | rfl | rfl <;> rcases hs' with rfl | rfl <;> decide
theorem limit_ok {s : List Pol} (hs : s = a ∨ s = b) : ((!decide (getV s 10 = 0)) && ((decide (getV (agree a b).1 10 = 0)) || (decide (getV s 10 < getV (agree a b).1 10)))) = false := by
  obtain ⟨ha, hb, h3, h4⟩ := agree_ok hg
  rw [okX_get hg rfl, okS_get hg hs (by decide) rfl]
  have e : valueOf (agreed (agC a) (agC b)) 10 = limitOf (agC a) (agC b) := rfl
  have h1 : 0 ≤ valueOf (agC a) 10 ∧ valueOf (agC a) 10 ≤ 1000000 := val_rng ha 10 rfl
  have h2 : 0 ≤ valueOf (agC b) 10 ∧ valueOf (agC b) 10 ≤ 1000000 := val_rng hb 10 rfl
  have hs' : valueOf (agC s) 10 = valueOf (agC a) 10 ∨ valueOf (agC s) 10 = valueOf (agC b) 10 := by rcases hs with rfl | rfl; exact .inl rfl; exact .inr rfl
  rw [e, limitOf]
  generalize valueOf (agC s) 10 = z at *
  generalize valueOf (agC a) 10 = x at *
  generalize valueOf (agC b) 10 = y at *
  rw [Bool.eq_false_iff]
  intro hc
  simp only [Bool.and_eq_true, Bool.not_eq_true', Bool.or_eq_true, decide_eq_true_eq, decide_eq_false_iff_not] at hc
  split at hc <;> omega
end

end Go.Eng
