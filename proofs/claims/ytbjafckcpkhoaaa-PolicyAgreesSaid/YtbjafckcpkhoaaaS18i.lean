/- Lemmas for a law of the seat: what functions of the program do, each stated as a contract of its own (module S18i). -/
import Derived.Test.YtbjafckcpkhoaaaS18h
import Derived.Test.YtbjafckcpkhoaaaChecked
set_option linter.unusedVariables false
set_option maxRecDepth 100000
namespace Go.Eng
open Go.RowKit Go.Shelf Go.Proofs Pol



theorem bad4 {s : List Pol} (h : 1 ≤ valueOf s 11) : badOf s ⟨8, 11, fun p q => (decide (p = 3)) && (decide (1 < q))⟩ = ((decide (valueOf s 8 = 3)) && (!decide (valueOf s 11 = 1))) := by
  show ((decide (valueOf s 8 = 3)) && (decide (1 < valueOf s 11))) = _
  congr 1
  rw [Bool.eq_iff_iff]; simp; omega
theorem bad5 {s : List Pol} : badOf s ⟨9, 11, fun p q => (decide (p < 3)) && (decide (q = 3))⟩ = ((decide (valueOf s 9 ≤ 2)) && (decide (valueOf s 11 = 3))) := by
  show ((decide (valueOf s 9 < 3)) && (decide (valueOf s 11 = 3))) = _
  congr 1
  rw [Bool.eq_iff_iff]; simp; omega

theorem rclashes_spec {w : World} {A : Option Addr} {n c : Nat} {s : List Pol} (hs : RdP w A n s) (hr : 1 ≤ valueOf s 11) : Ret Try.prog 41 #[.slice A n c] w (fun v w' => ∃ (A1 : Option Addr) (n1 c1 : Nat), v = .slice A1 n1 c1 ∧ RdQ w' A1 n1 (clashList s) ∧ Below w.heap.size w w') := by
  obtain ⟨bs1, os2, hA3, hc4⟩ := hs.flat
  have hln5 := hs.len
  have hbd6 := hs.bd
  have hlen_s := hs.len
  refine ret_of (args := [.slice A n c]) Try.func41 rfl Try.ntmps41 rfl (rs := [.tmp 2]) rfl ?_
  refine wc_seq ?_
  refine wc_region ?_
  refine wl_op rfl (op_assign rfl rfl ?_)
  refine (wl_done (then_norm ?_))
  refine wc_seq ?_
  refine wc_region ?_
  refine wl_op rfl (op_assign rfl rfl ?_)
  refine (wl_done (then_norm ?_))
  refine wc_join (fun l' w' => ∃ (v : Value), Sub [(0, .slice A n c), (2, .slice none 0 0), (3, v)] l' ∧ Below w.heap.size w w' ∧ (Own encQ w.heap.size 29 2 w' v (((clashRows.take (0 + 1)).filter (badOf s)).map pairOf))) ?_ ?_
  · refine wc_seq ?_
    refine wc_text [(0, .slice A n c), (2, .slice none 0 0), (3, .slice none 0 0)] ⟨rfl, rfl, rfl, trivial⟩ [fun v _ => v = .slice A n c, fun v _ => v = .int .i64 (valueOf s 3), fun v _ => v = .bool (decide (valueOf s 3 = 1)), fun v _ => v = .bool (decide (valueOf s 3 = 1)), fun v _ => v = (bif (decide (valueOf s 3 = 1)) then (.slice A n c) else undef), fun v _ => v = (bif (decide (valueOf s 3 = 1)) then (.int .i64 (valueOf s 6)) else undef), fun v _ => v = (bif (decide (valueOf s 3 = 1)) then (.bool (decide (valueOf s 6 = 2))) else undef), fun v _ => v = .bool ((decide (valueOf s 3 = 1)) && (decide (valueOf s 6 = 2)))] [[], [0], [1], [2], [3], [3, 4], [3, 5], [3, 6]] [7] rfl rfl rfl ⟨fun _ _ _ _ h => h, fun _ _ _ _ h => h, fun _ _ _ _ h => h, fun _ _ _ _ h => h, fun _ _ _ _ h => h, fun _ _ _ _ h => h, fun _ _ _ _ h => h, fun _ _ _ _ h => h, trivial⟩ ⟨?_, ?_, ?_, ?_, ?_, ?_, ?_, ?_, trivial⟩ ?_
    · intro W8 hW9
      refine gather_nil ?_
      refine opg_none rfl ?_
      exact op_move rfl rfl ⟨⟨_, rfl, rfl⟩, (Below.refl _ _)⟩
    · intro W8 hW9
      rintro _ rfl
      refine gather_nil ?_
      refine opg_none rfl ?_
      have hB12 : Below w.heap.size w W8 := (below_step (Below.refl _ _) hW9)
      refine op_call ent48 rfl (rvalue_spec (hs.ext (flat_lifts _) hB12)) rfl ?_
      rintro _ W13 ⟨rfl, hE14⟩
      exact ⟨⟨_, rfl, rfl⟩, hE14⟩
    · intro W8 hW9
      rintro _ rfl
      refine gather_nil ?_
      refine opg_none rfl ?_
      exact op_eql rfl rfl rfl ⟨⟨_, rfl, rfl⟩, (Below.refl _ _)⟩
    · intro W8 hW9
      rintro _ rfl
      refine gather_nil ?_
      refine opg_none rfl ?_
      exact op_move rfl rfl ⟨⟨_, rfl, rfl⟩, (Below.refl _ _)⟩
    · intro W8 hW9
      rintro _ rfl
      refine gather_nil ?_
      refine opg_t1 rfl rfl (fun hg15 => ?_) (fun h => by rw [h, cond_false])
      exact op_move rfl rfl ⟨⟨_, rfl, (by rw [hg15, cond_true])⟩, (Below.refl _ _)⟩
    · intro W8 hW9
      rintro _ rfl
      intro v16 (hv17 : v16 = bif (decide (valueOf s 3 = 1)) then (.slice A n c) else undef)
      refine gather_nil ?_
      refine opg_t1 rfl rfl (fun hg18 => ?_) (fun h => by rw [h, cond_false])
      have hd19 := of_decide_eq_true hg18
      obtain rfl : v16 = .slice A n c := by rw [hv17, hg18, cond_true]
      have hB20 : Below w.heap.size w W8 := (below_step (Below.refl _ _) hW9)
      refine op_call ent48 rfl (rvalue_spec (hs.ext (flat_lifts _) hB20)) rfl ?_
      rintro _ W21 ⟨rfl, hE22⟩
      exact ⟨⟨_, rfl, (by rw [hg18, cond_true])⟩, hE22⟩
    · intro W8 hW9
      rintro _ rfl
      intro v23 (hv24 : v23 = bif (decide (valueOf s 3 = 1)) then (.int .i64 (valueOf s 6)) else undef)
      refine gather_nil ?_
      refine opg_t1 rfl rfl (fun hg25 => ?_) (fun h => by rw [h, cond_false])
      have hd26 := of_decide_eq_true hg25
      obtain rfl : v23 = .int .i64 (valueOf s 6) := by rw [hv24, hg25, cond_true]
      exact op_eql rfl rfl rfl ⟨⟨_, rfl, (by rw [hg25, cond_true])⟩, (Below.refl _ _)⟩
    · intro W8 hW9
      rintro _ rfl
      intro v27 (hv28 : v27 = bif (decide (valueOf s 3 = 1)) then (.bool (decide (valueOf s 6 = 2))) else undef)
      refine gather_nil ?_
      refine opg_none rfl ?_
      exact op_and rfl rfl rfl (fun h => by rw [hv28, h, cond_true]) rfl ⟨⟨_, rfl, rfl⟩, (Below.refl _ _)⟩
    intro W29 hW30
    rintro _ rfl
    refine gather_nil ?_
    refine (then_norm ?_)
    refine wc_cond (b := (decide (valueOf s 3 = 1)) && (decide (valueOf s 6 = 2))) rfl (fun hc31 => ?_) (fun hc31 => ?_)
    · refine wc_region ?_
      refine wl_op rfl (op_move rfl rfl ?_)
      refine wl_op rfl (op_build (v := .agg #[.int .i64 3, .int .i64 6]) rfl (fun w => by kernel_rfl) rfl ?_)
      refine wl_op rfl (op_buildSlice (cs := #[.int .i64 3, .int .i64 6]) (e := 29) rfl (fun w => by kernel_rfl) rfl ?_)
      intro W32 b33 hN34
      have hb35 : W32.heap[b33]? = some (.cells #[.int .i64 3, .int .i64 6] 29 (0, 0)) := hN34.blk
      have hB40 : Below w.heap.size w W32 := (below_new (below_step (Below.refl _ _) hW30) hN34)
      refine wl_op rfl (op_appendO (enc := encQ) (3, 6) rfl rfl app25 rfl rfl (own_nil encQ w.heap.size 29 2 _) (cells_blk hb35) rfl rfl (by first | (simp only [List.length_nil]; omega) | (have := clash_le s (0 + 1); omega) | (have := clash_le s (1 + 1); omega) | (have := clash_le s (2 + 1); omega) | (have := clash_le s (3 + 1); omega) | (have := clash_le s (4 + 1); omega) | (have := clash_le s (5 + 1); omega) | (have := clash_le s (6 + 1); omega)) (by first | (simp only [List.length_nil]; omega) | (have := clash_le s (0 + 1); omega) | (have := clash_le s (1 + 1); omega) | (have := clash_le s (2 + 1); omega) | (have := clash_le s (3 + 1); omega) | (have := clash_le s (4 + 1); omega) | (have := clash_le s (5 + 1); omega) | (have := clash_le s (6 + 1); omega)) hB40.size rfl ?_)
      intro v36 W37 ho38 hg39
      simp only [List.nil_append] at ho38
      refine wl_op rfl (op_assign rfl rfl ?_)
      refine (wl_done (then_norm ?_))
      have hb : badOf s (⟨3, 6, bothB 1 2⟩) = true := hc31
      have hB41 : Below w.heap.size w W37 := (below_grown hB40 (own_nil encQ w.heap.size 29 2 _) hg39 (Nat.le_refl _))
      exact ⟨v36, ⟨rfl, rfl, rfl, trivial⟩, hB41, (by rw [take_filter_t (rfl : clashRows[0]? = some _) hb, List.map_append]; exact ho38)⟩
    · refine wc_skip ?_
      refine (then_norm ?_)
      have hb : badOf s (⟨3, 6, bothB 1 2⟩) = false := hc31
      have hB42 : Below w.heap.size w W29 := (below_step (Below.refl _ _) hW30)
      exact ⟨.slice none 0 0, ⟨rfl, rfl, rfl, trivial⟩, hB42, (by rw [take_filter_f (rfl : clashRows[0]? = some _) hb]; exact (own_nil _ _ _ _ _))⟩
  · rintro l' W7 ⟨v, hsub, hE43, hown⟩
    refine WC.sub _ hsub ?_
    refine wc_join (fun l' w' => ∃ (v : Value), Sub [(0, .slice A n c), (2, .slice none 0 0), (3, v)] l' ∧ Below w.heap.size w w' ∧ (Own encQ w.heap.size 29 2 w' v (((clashRows.take (1 + 1)).filter (badOf s)).map pairOf))) ?_ ?_
    · refine wc_seq ?_
      refine wc_text [(0, .slice A n c), (2, .slice none 0 0), (3, v)] ⟨rfl, rfl, rfl, trivial⟩ [fun v _ => v = .slice A n c, fun v _ => v = .int .i64 (valueOf s 4), fun v _ => v = .bool (decide (valueOf s 4 = 2)), fun v _ => v = .bool (decide (valueOf s 4 = 2)), fun v _ => v = (bif (decide (valueOf s 4 = 2)) then (.slice A n c) else undef), fun v _ => v = (bif (decide (valueOf s 4 = 2)) then (.int .i64 (valueOf s 7)) else undef), fun v _ => v = (bif (decide (valueOf s 4 = 2)) then (.bool (decide (valueOf s 7 = 2))) else undef), fun v _ => v = .bool ((decide (valueOf s 4 = 2)) && (decide (valueOf s 7 = 2)))] [[], [0], [1], [2], [3], [3, 4], [3, 5], [3, 6]] [7] rfl rfl rfl ⟨fun _ _ _ _ h => h, fun _ _ _ _ h => h, fun _ _ _ _ h => h, fun _ _ _ _ h => h, fun _ _ _ _ h => h, fun _ _ _ _ h => h, fun _ _ _ _ h => h, fun _ _ _ _ h => h, trivial⟩ ⟨?_, ?_, ?_, ?_, ?_, ?_, ?_, ?_, trivial⟩ ?_
      · intro W45 hW46
        refine gather_nil ?_
        refine opg_none rfl ?_
        exact op_move rfl rfl ⟨⟨_, rfl, rfl⟩, (Below.refl _ _)⟩
      · intro W45 hW46
        rintro _ rfl
        refine gather_nil ?_
        refine opg_none rfl ?_
        have hB49 : Below w.heap.size w W45 := (below_step (below_step (Below.refl _ _) hE43) hW46)
        refine op_call ent48 rfl (rvalue_spec (hs.ext (flat_lifts _) hB49)) rfl ?_
        rintro _ W50 ⟨rfl, hE51⟩
        exact ⟨⟨_, rfl, rfl⟩, hE51⟩
      · intro W45 hW46
        rintro _ rfl
        refine gather_nil ?_
        refine opg_none rfl ?_
        exact op_eql rfl rfl rfl ⟨⟨_, rfl, rfl⟩, (Below.refl _ _)⟩
      · intro W45 hW46
        rintro _ rfl
        refine gather_nil ?_
        refine opg_none rfl ?_
        exact op_move rfl rfl ⟨⟨_, rfl, rfl⟩, (Below.refl _ _)⟩
      · intro W45 hW46
        rintro _ rfl
        refine gather_nil ?_
        refine opg_t1 rfl rfl (fun hg52 => ?_) (fun h => by rw [h, cond_false])
        exact op_move rfl rfl ⟨⟨_, rfl, (by rw [hg52, cond_true])⟩, (Below.refl _ _)⟩
      · intro W45 hW46
        rintro _ rfl
        intro v53 (hv54 : v53 = bif (decide (valueOf s 4 = 2)) then (.slice A n c) else undef)
        refine gather_nil ?_
        refine opg_t1 rfl rfl (fun hg55 => ?_) (fun h => by rw [h, cond_false])
        have hd56 := of_decide_eq_true hg55
        obtain rfl : v53 = .slice A n c := by rw [hv54, hg55, cond_true]
        have hB57 : Below w.heap.size w W45 := (below_step (below_step (Below.refl _ _) hE43) hW46)
        refine op_call ent48 rfl (rvalue_spec (hs.ext (flat_lifts _) hB57)) rfl ?_
        rintro _ W58 ⟨rfl, hE59⟩
        exact ⟨⟨_, rfl, (by rw [hg55, cond_true])⟩, hE59⟩
      · intro W45 hW46
        rintro _ rfl
        intro v60 (hv61 : v60 = bif (decide (valueOf s 4 = 2)) then (.int .i64 (valueOf s 7)) else undef)
        refine gather_nil ?_
        refine opg_t1 rfl rfl (fun hg62 => ?_) (fun h => by rw [h, cond_false])
        have hd63 := of_decide_eq_true hg62
        obtain rfl : v60 = .int .i64 (valueOf s 7) := by rw [hv61, hg62, cond_true]
        exact op_eql rfl rfl rfl ⟨⟨_, rfl, (by rw [hg62, cond_true])⟩, (Below.refl _ _)⟩
      · intro W45 hW46
        rintro _ rfl
        intro v64 (hv65 : v64 = bif (decide (valueOf s 4 = 2)) then (.bool (decide (valueOf s 7 = 2))) else undef)
        refine gather_nil ?_
        refine opg_none rfl ?_
        exact op_and rfl rfl rfl (fun h => by rw [hv65, h, cond_true]) rfl ⟨⟨_, rfl, rfl⟩, (Below.refl _ _)⟩
      intro W66 hW67
      rintro _ rfl
      refine gather_nil ?_
      refine (then_norm ?_)
      refine wc_cond (b := (decide (valueOf s 4 = 2)) && (decide (valueOf s 7 = 2))) rfl (fun hc68 => ?_) (fun hc68 => ?_)
      · refine wc_region ?_
        refine wl_op rfl (op_move rfl rfl ?_)
        refine wl_op rfl (op_build (v := .agg #[.int .i64 4, .int .i64 7]) rfl (fun w => by kernel_rfl) rfl ?_)
        refine wl_op rfl (op_buildSlice (cs := #[.int .i64 4, .int .i64 7]) (e := 29) rfl (fun w => by kernel_rfl) rfl ?_)
        intro W69 b70 hN71
        have hb72 : W69.heap[b70]? = some (.cells #[.int .i64 4, .int .i64 7] 29 (0, 0)) := hN71.blk
        have hB77 : Below w.heap.size w W69 := (below_new (below_step (below_step (Below.refl _ _) hE43) hW67) hN71)
        refine wl_op rfl (op_appendO (enc := encQ) (4, 7) rfl rfl app25 rfl rfl (Own.ext (Own.ext hown hW67) hN71.ext) (cells_blk hb72) rfl rfl (by first | (simp only [List.length_nil]; omega) | (have := clash_le s (0 + 1); omega) | (have := clash_le s (1 + 1); omega) | (have := clash_le s (2 + 1); omega) | (have := clash_le s (3 + 1); omega) | (have := clash_le s (4 + 1); omega) | (have := clash_le s (5 + 1); omega) | (have := clash_le s (6 + 1); omega)) (by first | (simp only [List.length_nil]; omega) | (have := clash_le s (0 + 1); omega) | (have := clash_le s (1 + 1); omega) | (have := clash_le s (2 + 1); omega) | (have := clash_le s (3 + 1); omega) | (have := clash_le s (4 + 1); omega) | (have := clash_le s (5 + 1); omega) | (have := clash_le s (6 + 1); omega)) hB77.size rfl ?_)
        intro v73 W74 ho75 hg76
        refine wl_op rfl (op_assign rfl rfl ?_)
        refine (wl_done (then_norm ?_))
        have hb : badOf s (⟨4, 7, bothB 2 2⟩) = true := hc68
        have hB78 : Below w.heap.size w W74 := (below_grown hB77 (Own.ext (Own.ext hown hW67) hN71.ext) hg76 (Nat.le_refl _))
        exact ⟨v73, ⟨rfl, rfl, rfl, trivial⟩, hB78, (by rw [take_filter_t (rfl : clashRows[1]? = some _) hb, List.map_append]; exact ho75)⟩
      · refine wc_skip ?_
        refine (then_norm ?_)
        have hb : badOf s (⟨4, 7, bothB 2 2⟩) = false := hc68
        have hB79 : Below w.heap.size w W66 := (below_step (below_step (Below.refl _ _) hE43) hW67)
        exact ⟨v, ⟨rfl, rfl, rfl, trivial⟩, hB79, (by rw [take_filter_f (rfl : clashRows[1]? = some _) hb]; exact (Own.ext hown hW67))⟩
    · rintro l' W44 ⟨v, hsub, hE80, hown⟩
      refine WC.sub _ hsub ?_
      refine wc_join (fun l' w' => ∃ (v : Value), Sub [(0, .slice A n c), (2, .slice none 0 0), (3, v)] l' ∧ Below w.heap.size w w' ∧ (Own encQ w.heap.size 29 2 w' v (((clashRows.take (2 + 1)).filter (badOf s)).map pairOf))) ?_ ?_
      · refine wc_seq ?_
        refine wc_text [(0, .slice A n c), (2, .slice none 0 0), (3, v)] ⟨rfl, rfl, rfl, trivial⟩ [fun v _ => v = .slice A n c, fun v _ => v = .int .i64 (valueOf s 5), fun v _ => v = .bool (decide (valueOf s 5 = 2)), fun v _ => v = .bool (decide (valueOf s 5 = 2)), fun v _ => v = (bif (decide (valueOf s 5 = 2)) then (.slice A n c) else undef), fun v _ => v = (bif (decide (valueOf s 5 = 2)) then (.int .i64 (valueOf s 6)) else undef), fun v _ => v = (bif (decide (valueOf s 5 = 2)) then (.bool (decide (valueOf s 6 = 1))) else undef), fun v _ => v = .bool ((decide (valueOf s 5 = 2)) && (decide (valueOf s 6 = 1)))] [[], [0], [1], [2], [3], [3, 4], [3, 5], [3, 6]] [7] rfl rfl rfl ⟨fun _ _ _ _ h => h, fun _ _ _ _ h => h, fun _ _ _ _ h => h, fun _ _ _ _ h => h, fun _ _ _ _ h => h, fun _ _ _ _ h => h, fun _ _ _ _ h => h, fun _ _ _ _ h => h, trivial⟩ ⟨?_, ?_, ?_, ?_, ?_, ?_, ?_, ?_, trivial⟩ ?_
        · intro W82 hW83
          refine gather_nil ?_
          refine opg_none rfl ?_
          exact op_move rfl rfl ⟨⟨_, rfl, rfl⟩, (Below.refl _ _)⟩
        · intro W82 hW83
          rintro _ rfl
          refine gather_nil ?_
          refine opg_none rfl ?_
          have hB86 : Below w.heap.size w W82 := (below_step (below_step (Below.refl _ _) hE80) hW83)
          refine op_call ent48 rfl (rvalue_spec (hs.ext (flat_lifts _) hB86)) rfl ?_
          rintro _ W87 ⟨rfl, hE88⟩
          exact ⟨⟨_, rfl, rfl⟩, hE88⟩
        · intro W82 hW83
          rintro _ rfl
          refine gather_nil ?_
          refine opg_none rfl ?_
          exact op_eql rfl rfl rfl ⟨⟨_, rfl, rfl⟩, (Below.refl _ _)⟩
        · intro W82 hW83
          rintro _ rfl
          refine gather_nil ?_
          refine opg_none rfl ?_
          exact op_move rfl rfl ⟨⟨_, rfl, rfl⟩, (Below.refl _ _)⟩
        · intro W82 hW83
          rintro _ rfl
          refine gather_nil ?_
          refine opg_t1 rfl rfl (fun hg89 => ?_) (fun h => by rw [h, cond_false])
          exact op_move rfl rfl ⟨⟨_, rfl, (by rw [hg89, cond_true])⟩, (Below.refl _ _)⟩
        · intro W82 hW83
          rintro _ rfl
          intro v90 (hv91 : v90 = bif (decide (valueOf s 5 = 2)) then (.slice A n c) else undef)
          refine gather_nil ?_
          refine opg_t1 rfl rfl (fun hg92 => ?_) (fun h => by rw [h, cond_false])
          have hd93 := of_decide_eq_true hg92
          obtain rfl : v90 = .slice A n c := by rw [hv91, hg92, cond_true]
          have hB94 : Below w.heap.size w W82 := (below_step (below_step (Below.refl _ _) hE80) hW83)
          refine op_call ent48 rfl (rvalue_spec (hs.ext (flat_lifts _) hB94)) rfl ?_
          rintro _ W95 ⟨rfl, hE96⟩
          exact ⟨⟨_, rfl, (by rw [hg92, cond_true])⟩, hE96⟩
        · intro W82 hW83
          rintro _ rfl
          intro v97 (hv98 : v97 = bif (decide (valueOf s 5 = 2)) then (.int .i64 (valueOf s 6)) else undef)
          refine gather_nil ?_
          refine opg_t1 rfl rfl (fun hg99 => ?_) (fun h => by rw [h, cond_false])
          have hd100 := of_decide_eq_true hg99
          obtain rfl : v97 = .int .i64 (valueOf s 6) := by rw [hv98, hg99, cond_true]
          exact op_eql rfl rfl rfl ⟨⟨_, rfl, (by rw [hg99, cond_true])⟩, (Below.refl _ _)⟩
        · intro W82 hW83
          rintro _ rfl
          intro v101 (hv102 : v101 = bif (decide (valueOf s 5 = 2)) then (.bool (decide (valueOf s 6 = 1))) else undef)
          refine gather_nil ?_
          refine opg_none rfl ?_
          exact op_and rfl rfl rfl (fun h => by rw [hv102, h, cond_true]) rfl ⟨⟨_, rfl, rfl⟩, (Below.refl _ _)⟩
        intro W103 hW104
        rintro _ rfl
        refine gather_nil ?_
        refine (then_norm ?_)
        refine wc_cond (b := (decide (valueOf s 5 = 2)) && (decide (valueOf s 6 = 1))) rfl (fun hc105 => ?_) (fun hc105 => ?_)
        · refine wc_region ?_
          refine wl_op rfl (op_move rfl rfl ?_)
          refine wl_op rfl (op_build (v := .agg #[.int .i64 5, .int .i64 6]) rfl (fun w => by kernel_rfl) rfl ?_)
          refine wl_op rfl (op_buildSlice (cs := #[.int .i64 5, .int .i64 6]) (e := 29) rfl (fun w => by kernel_rfl) rfl ?_)
          intro W106 b107 hN108
          have hb109 : W106.heap[b107]? = some (.cells #[.int .i64 5, .int .i64 6] 29 (0, 0)) := hN108.blk
          have hB114 : Below w.heap.size w W106 := (below_new (below_step (below_step (Below.refl _ _) hE80) hW104) hN108)
          refine wl_op rfl (op_appendO (enc := encQ) (5, 6) rfl rfl app25 rfl rfl (Own.ext (Own.ext hown hW104) hN108.ext) (cells_blk hb109) rfl rfl (by first | (simp only [List.length_nil]; omega) | (have := clash_le s (0 + 1); omega) | (have := clash_le s (1 + 1); omega) | (have := clash_le s (2 + 1); omega) | (have := clash_le s (3 + 1); omega) | (have := clash_le s (4 + 1); omega) | (have := clash_le s (5 + 1); omega) | (have := clash_le s (6 + 1); omega)) (by first | (simp only [List.length_nil]; omega) | (have := clash_le s (0 + 1); omega) | (have := clash_le s (1 + 1); omega) | (have := clash_le s (2 + 1); omega) | (have := clash_le s (3 + 1); omega) | (have := clash_le s (4 + 1); omega) | (have := clash_le s (5 + 1); omega) | (have := clash_le s (6 + 1); omega)) hB114.size rfl ?_)
          intro v110 W111 ho112 hg113
          refine wl_op rfl (op_assign rfl rfl ?_)
          refine (wl_done (then_norm ?_))
          have hb : badOf s (⟨5, 6, bothB 2 1⟩) = true := hc105
          have hB115 : Below w.heap.size w W111 := (below_grown hB114 (Own.ext (Own.ext hown hW104) hN108.ext) hg113 (Nat.le_refl _))
          exact ⟨v110, ⟨rfl, rfl, rfl, trivial⟩, hB115, (by rw [take_filter_t (rfl : clashRows[2]? = some _) hb, List.map_append]; exact ho112)⟩
        · refine wc_skip ?_
          refine (then_norm ?_)
          have hb : badOf s (⟨5, 6, bothB 2 1⟩) = false := hc105
          have hB116 : Below w.heap.size w W103 := (below_step (below_step (Below.refl _ _) hE80) hW104)
          exact ⟨v, ⟨rfl, rfl, rfl, trivial⟩, hB116, (by rw [take_filter_f (rfl : clashRows[2]? = some _) hb]; exact (Own.ext hown hW104))⟩
      · rintro l' W81 ⟨v, hsub, hE117, hown⟩
        refine WC.sub _ hsub ?_
        refine wc_join (fun l' w' => ∃ (v : Value), Sub [(0, .slice A n c), (2, .slice none 0 0), (3, v)] l' ∧ Below w.heap.size w w' ∧ (Own encQ w.heap.size 29 2 w' v (((clashRows.take (3 + 1)).filter (badOf s)).map pairOf))) ?_ ?_
        · refine wc_seq ?_
          refine wc_text [(0, .slice A n c), (2, .slice none 0 0), (3, v)] ⟨rfl, rfl, rfl, trivial⟩ [fun v _ => v = .slice A n c, fun v _ => v = .int .i64 (valueOf s 5), fun v _ => v = .bool (decide (valueOf s 5 = 2)), fun v _ => v = .bool (decide (valueOf s 5 = 2)), fun v _ => v = (bif (decide (valueOf s 5 = 2)) then (.slice A n c) else undef), fun v _ => v = (bif (decide (valueOf s 5 = 2)) then (.int .i64 (valueOf s 7)) else undef), fun v _ => v = (bif (decide (valueOf s 5 = 2)) then (.bool (decide (valueOf s 7 = 2))) else undef), fun v _ => v = .bool ((decide (valueOf s 5 = 2)) && (decide (valueOf s 7 = 2)))] [[], [0], [1], [2], [3], [3, 4], [3, 5], [3, 6]] [7] rfl rfl rfl ⟨fun _ _ _ _ h => h, fun _ _ _ _ h => h, fun _ _ _ _ h => h, fun _ _ _ _ h => h, fun _ _ _ _ h => h, fun _ _ _ _ h => h, fun _ _ _ _ h => h, fun _ _ _ _ h => h, trivial⟩ ⟨?_, ?_, ?_, ?_, ?_, ?_, ?_, ?_, trivial⟩ ?_
          · intro W119 hW120
            refine gather_nil ?_
            refine opg_none rfl ?_
            exact op_move rfl rfl ⟨⟨_, rfl, rfl⟩, (Below.refl _ _)⟩
          · intro W119 hW120
            rintro _ rfl
            refine gather_nil ?_
            refine opg_none rfl ?_
            have hB123 : Below w.heap.size w W119 := (below_step (below_step (Below.refl _ _) hE117) hW120)
            refine op_call ent48 rfl (rvalue_spec (hs.ext (flat_lifts _) hB123)) rfl ?_
            rintro _ W124 ⟨rfl, hE125⟩
            exact ⟨⟨_, rfl, rfl⟩, hE125⟩
          · intro W119 hW120
            rintro _ rfl
            refine gather_nil ?_
            refine opg_none rfl ?_
            exact op_eql rfl rfl rfl ⟨⟨_, rfl, rfl⟩, (Below.refl _ _)⟩
          · intro W119 hW120
            rintro _ rfl
            refine gather_nil ?_
            refine opg_none rfl ?_
            exact op_move rfl rfl ⟨⟨_, rfl, rfl⟩, (Below.refl _ _)⟩
          · intro W119 hW120
            rintro _ rfl
            refine gather_nil ?_
            refine opg_t1 rfl rfl (fun hg126 => ?_) (fun h => by rw [h, cond_false])
            exact op_move rfl rfl ⟨⟨_, rfl, (by rw [hg126, cond_true])⟩, (Below.refl _ _)⟩
          · intro W119 hW120
            rintro _ rfl
            intro v127 (hv128 : v127 = bif (decide (valueOf s 5 = 2)) then (.slice A n c) else undef)
            refine gather_nil ?_
            refine opg_t1 rfl rfl (fun hg129 => ?_) (fun h => by rw [h, cond_false])
            have hd130 := of_decide_eq_true hg129
            obtain rfl : v127 = .slice A n c := by rw [hv128, hg129, cond_true]
            have hB131 : Below w.heap.size w W119 := (below_step (below_step (Below.refl _ _) hE117) hW120)
            refine op_call ent48 rfl (rvalue_spec (hs.ext (flat_lifts _) hB131)) rfl ?_
            rintro _ W132 ⟨rfl, hE133⟩
            exact ⟨⟨_, rfl, (by rw [hg129, cond_true])⟩, hE133⟩
          · intro W119 hW120
            rintro _ rfl
            intro v134 (hv135 : v134 = bif (decide (valueOf s 5 = 2)) then (.int .i64 (valueOf s 7)) else undef)
            refine gather_nil ?_
            refine opg_t1 rfl rfl (fun hg136 => ?_) (fun h => by rw [h, cond_false])
            have hd137 := of_decide_eq_true hg136
            obtain rfl : v134 = .int .i64 (valueOf s 7) := by rw [hv135, hg136, cond_true]
            exact op_eql rfl rfl rfl ⟨⟨_, rfl, (by rw [hg136, cond_true])⟩, (Below.refl _ _)⟩
          · intro W119 hW120
            rintro _ rfl
            intro v138 (hv139 : v138 = bif (decide (valueOf s 5 = 2)) then (.bool (decide (valueOf s 7 = 2))) else undef)
            refine gather_nil ?_
            refine opg_none rfl ?_
            exact op_and rfl rfl rfl (fun h => by rw [hv139, h, cond_true]) rfl ⟨⟨_, rfl, rfl⟩, (Below.refl _ _)⟩
          intro W140 hW141
          rintro _ rfl
          refine gather_nil ?_
          refine (then_norm ?_)
          refine wc_cond (b := (decide (valueOf s 5 = 2)) && (decide (valueOf s 7 = 2))) rfl (fun hc142 => ?_) (fun hc142 => ?_)
          · refine wc_region ?_
            refine wl_op rfl (op_move rfl rfl ?_)
            refine wl_op rfl (op_build (v := .agg #[.int .i64 5, .int .i64 7]) rfl (fun w => by kernel_rfl) rfl ?_)
            refine wl_op rfl (op_buildSlice (cs := #[.int .i64 5, .int .i64 7]) (e := 29) rfl (fun w => by kernel_rfl) rfl ?_)
            intro W143 b144 hN145
            have hb146 : W143.heap[b144]? = some (.cells #[.int .i64 5, .int .i64 7] 29 (0, 0)) := hN145.blk
            have hB151 : Below w.heap.size w W143 := (below_new (below_step (below_step (Below.refl _ _) hE117) hW141) hN145)
            refine wl_op rfl (op_appendO (enc := encQ) (5, 7) rfl rfl app25 rfl rfl (Own.ext (Own.ext hown hW141) hN145.ext) (cells_blk hb146) rfl rfl (by first | (simp only [List.length_nil]; omega) | (have := clash_le s (0 + 1); omega) | (have := clash_le s (1 + 1); omega) | (have := clash_le s (2 + 1); omega) | (have := clash_le s (3 + 1); omega) | (have := clash_le s (4 + 1); omega) | (have := clash_le s (5 + 1); omega) | (have := clash_le s (6 + 1); omega)) (by first | (simp only [List.length_nil]; omega) | (have := clash_le s (0 + 1); omega) | (have := clash_le s (1 + 1); omega) | (have := clash_le s (2 + 1); omega) | (have := clash_le s (3 + 1); omega) | (have := clash_le s (4 + 1); omega) | (have := clash_le s (5 + 1); omega) | (have := clash_le s (6 + 1); omega)) hB151.size rfl ?_)
            intro v147 W148 ho149 hg150
            refine wl_op rfl (op_assign rfl rfl ?_)
            refine (wl_done (then_norm ?_))
            have hb : badOf s (⟨5, 7, bothB 2 2⟩) = true := hc142
            have hB152 : Below w.heap.size w W148 := (below_grown hB151 (Own.ext (Own.ext hown hW141) hN145.ext) hg150 (Nat.le_refl _))
            exact ⟨v147, ⟨rfl, rfl, rfl, trivial⟩, hB152, (by rw [take_filter_t (rfl : clashRows[3]? = some _) hb, List.map_append]; exact ho149)⟩
          · refine wc_skip ?_
            refine (then_norm ?_)
            have hb : badOf s (⟨5, 7, bothB 2 2⟩) = false := hc142
            have hB153 : Below w.heap.size w W140 := (below_step (below_step (Below.refl _ _) hE117) hW141)
            exact ⟨v, ⟨rfl, rfl, rfl, trivial⟩, hB153, (by rw [take_filter_f (rfl : clashRows[3]? = some _) hb]; exact (Own.ext hown hW141))⟩
        · rintro l' W118 ⟨v, hsub, hE154, hown⟩
          refine WC.sub _ hsub ?_
          refine wc_join (fun l' w' => ∃ (v : Value), Sub [(0, .slice A n c), (2, .slice none 0 0), (3, v)] l' ∧ Below w.heap.size w w' ∧ (Own encQ w.heap.size 29 2 w' v (((clashRows.take (4 + 1)).filter (badOf s)).map pairOf))) ?_ ?_
          · refine wc_seq ?_
            refine wc_text [(0, .slice A n c), (2, .slice none 0 0), (3, v)] ⟨rfl, rfl, rfl, trivial⟩ [fun v _ => v = .slice A n c, fun v _ => v = .int .i64 (valueOf s 8), fun v _ => v = .bool (decide (valueOf s 8 = 3)), fun v _ => v = .bool (decide (valueOf s 8 = 3)), fun v _ => v = (bif (decide (valueOf s 8 = 3)) then (.slice A n c) else undef), fun v _ => v = (bif (decide (valueOf s 8 = 3)) then (.int .i64 (valueOf s 11)) else undef), fun v _ => v = (bif (decide (valueOf s 8 = 3)) then (.bool (!decide (valueOf s 11 = 1))) else undef), fun v _ => v = .bool ((decide (valueOf s 8 = 3)) && (!decide (valueOf s 11 = 1)))] [[], [0], [1], [2], [3], [3, 4], [3, 5], [3, 6]] [7] rfl rfl rfl ⟨fun _ _ _ _ h => h, fun _ _ _ _ h => h, fun _ _ _ _ h => h, fun _ _ _ _ h => h, fun _ _ _ _ h => h, fun _ _ _ _ h => h, fun _ _ _ _ h => h, fun _ _ _ _ h => h, trivial⟩ ⟨?_, ?_, ?_, ?_, ?_, ?_, ?_, ?_, trivial⟩ ?_
            · intro W156 hW157
              refine gather_nil ?_
              refine opg_none rfl ?_
              exact op_move rfl rfl ⟨⟨_, rfl, rfl⟩, (Below.refl _ _)⟩
            · intro W156 hW157
              rintro _ rfl
              refine gather_nil ?_
              refine opg_none rfl ?_
              have hB160 : Below w.heap.size w W156 := (below_step (below_step (Below.refl _ _) hE154) hW157)
              refine op_call ent48 rfl (rvalue_spec (hs.ext (flat_lifts _) hB160)) rfl ?_
              rintro _ W161 ⟨rfl, hE162⟩
              exact ⟨⟨_, rfl, rfl⟩, hE162⟩
            · intro W156 hW157
              rintro _ rfl
              refine gather_nil ?_
              refine opg_none rfl ?_
              exact op_eql rfl rfl rfl ⟨⟨_, rfl, rfl⟩, (Below.refl _ _)⟩
            · intro W156 hW157
              rintro _ rfl
              refine gather_nil ?_
              refine opg_none rfl ?_
              exact op_move rfl rfl ⟨⟨_, rfl, rfl⟩, (Below.refl _ _)⟩
            · intro W156 hW157
              rintro _ rfl
              refine gather_nil ?_
              refine opg_t1 rfl rfl (fun hg163 => ?_) (fun h => by rw [h, cond_false])
              exact op_move rfl rfl ⟨⟨_, rfl, (by rw [hg163, cond_true])⟩, (Below.refl _ _)⟩
            · intro W156 hW157
              rintro _ rfl
              intro v164 (hv165 : v164 = bif (decide (valueOf s 8 = 3)) then (.slice A n c) else undef)
              refine gather_nil ?_
              refine opg_t1 rfl rfl (fun hg166 => ?_) (fun h => by rw [h, cond_false])
              have hd167 := of_decide_eq_true hg166
              obtain rfl : v164 = .slice A n c := by rw [hv165, hg166, cond_true]
              have hB168 : Below w.heap.size w W156 := (below_step (below_step (Below.refl _ _) hE154) hW157)
              refine op_call ent48 rfl (rvalue_spec (hs.ext (flat_lifts _) hB168)) rfl ?_
              rintro _ W169 ⟨rfl, hE170⟩
              exact ⟨⟨_, rfl, (by rw [hg166, cond_true])⟩, hE170⟩
            · intro W156 hW157
              rintro _ rfl
              intro v171 (hv172 : v171 = bif (decide (valueOf s 8 = 3)) then (.int .i64 (valueOf s 11)) else undef)
              refine gather_nil ?_
              refine opg_t1 rfl rfl (fun hg173 => ?_) (fun h => by rw [h, cond_false])
              have hd174 := of_decide_eq_true hg173
              obtain rfl : v171 = .int .i64 (valueOf s 11) := by rw [hv172, hg173, cond_true]
              exact op_neq rfl rfl rfl ⟨⟨_, rfl, (by rw [hg173, cond_true])⟩, (Below.refl _ _)⟩
            · intro W156 hW157
              rintro _ rfl
              intro v175 (hv176 : v175 = bif (decide (valueOf s 8 = 3)) then (.bool (!decide (valueOf s 11 = 1))) else undef)
              refine gather_nil ?_
              refine opg_none rfl ?_
              exact op_and rfl rfl rfl (fun h => by rw [hv176, h, cond_true]) rfl ⟨⟨_, rfl, rfl⟩, (Below.refl _ _)⟩
            intro W177 hW178
            rintro _ rfl
            refine gather_nil ?_
            refine (then_norm ?_)
            refine wc_cond (b := (decide (valueOf s 8 = 3)) && (!decide (valueOf s 11 = 1))) rfl (fun hc179 => ?_) (fun hc179 => ?_)
            · refine wc_region ?_
              refine wl_op rfl (op_move rfl rfl ?_)
              refine wl_op rfl (op_build (v := .agg #[.int .i64 8, .int .i64 11]) rfl (fun w => by kernel_rfl) rfl ?_)
              refine wl_op rfl (op_buildSlice (cs := #[.int .i64 8, .int .i64 11]) (e := 29) rfl (fun w => by kernel_rfl) rfl ?_)
              intro W180 b181 hN182
              have hb183 : W180.heap[b181]? = some (.cells #[.int .i64 8, .int .i64 11] 29 (0, 0)) := hN182.blk
              have hB188 : Below w.heap.size w W180 := (below_new (below_step (below_step (Below.refl _ _) hE154) hW178) hN182)
              refine wl_op rfl (op_appendO (enc := encQ) (8, 11) rfl rfl app25 rfl rfl (Own.ext (Own.ext hown hW178) hN182.ext) (cells_blk hb183) rfl rfl (by first | (simp only [List.length_nil]; omega) | (have := clash_le s (0 + 1); omega) | (have := clash_le s (1 + 1); omega) | (have := clash_le s (2 + 1); omega) | (have := clash_le s (3 + 1); omega) | (have := clash_le s (4 + 1); omega) | (have := clash_le s (5 + 1); omega) | (have := clash_le s (6 + 1); omega)) (by first | (simp only [List.length_nil]; omega) | (have := clash_le s (0 + 1); omega) | (have := clash_le s (1 + 1); omega) | (have := clash_le s (2 + 1); omega) | (have := clash_le s (3 + 1); omega) | (have := clash_le s (4 + 1); omega) | (have := clash_le s (5 + 1); omega) | (have := clash_le s (6 + 1); omega)) hB188.size rfl ?_)
              intro v184 W185 ho186 hg187
              refine wl_op rfl (op_assign rfl rfl ?_)
              refine (wl_done (then_norm ?_))
              have hb : badOf s (⟨8, 11, fun p q => (decide (p = 3)) && (decide (1 < q))⟩) = true := by rw [bad4 hr]; exact hc179
              have hB189 : Below w.heap.size w W185 := (below_grown hB188 (Own.ext (Own.ext hown hW178) hN182.ext) hg187 (Nat.le_refl _))
              exact ⟨v184, ⟨rfl, rfl, rfl, trivial⟩, hB189, (by rw [take_filter_t (rfl : clashRows[4]? = some _) hb, List.map_append]; exact ho186)⟩
            · refine wc_skip ?_
              refine (then_norm ?_)
              have hb : badOf s (⟨8, 11, fun p q => (decide (p = 3)) && (decide (1 < q))⟩) = false := by rw [bad4 hr]; exact hc179
              have hB190 : Below w.heap.size w W177 := (below_step (below_step (Below.refl _ _) hE154) hW178)
              exact ⟨v, ⟨rfl, rfl, rfl, trivial⟩, hB190, (by rw [take_filter_f (rfl : clashRows[4]? = some _) hb]; exact (Own.ext hown hW178))⟩
          · rintro l' W155 ⟨v, hsub, hE191, hown⟩
            refine WC.sub _ hsub ?_
            refine wc_join (fun l' w' => ∃ (v : Value), Sub [(0, .slice A n c), (2, .slice none 0 0), (3, v)] l' ∧ Below w.heap.size w w' ∧ (Own encQ w.heap.size 29 2 w' v (((clashRows.take (5 + 1)).filter (badOf s)).map pairOf))) ?_ ?_
            · refine wc_seq ?_
              refine wc_text [(0, .slice A n c), (2, .slice none 0 0), (3, v)] ⟨rfl, rfl, rfl, trivial⟩ [fun v _ => v = .slice A n c, fun v _ => v = .int .i64 (valueOf s 9), fun v _ => v = .bool (decide (valueOf s 9 ≤ 2)), fun v _ => v = .bool (decide (valueOf s 9 ≤ 2)), fun v _ => v = (bif (decide (valueOf s 9 ≤ 2)) then (.slice A n c) else undef), fun v _ => v = (bif (decide (valueOf s 9 ≤ 2)) then (.int .i64 (valueOf s 11)) else undef), fun v _ => v = (bif (decide (valueOf s 9 ≤ 2)) then (.bool (decide (valueOf s 11 = 3))) else undef), fun v _ => v = .bool ((decide (valueOf s 9 ≤ 2)) && (decide (valueOf s 11 = 3)))] [[], [0], [1], [2], [3], [3, 4], [3, 5], [3, 6]] [7] rfl rfl rfl ⟨fun _ _ _ _ h => h, fun _ _ _ _ h => h, fun _ _ _ _ h => h, fun _ _ _ _ h => h, fun _ _ _ _ h => h, fun _ _ _ _ h => h, fun _ _ _ _ h => h, fun _ _ _ _ h => h, trivial⟩ ⟨?_, ?_, ?_, ?_, ?_, ?_, ?_, ?_, trivial⟩ ?_
              · intro W193 hW194
                refine gather_nil ?_
                refine opg_none rfl ?_
                exact op_move rfl rfl ⟨⟨_, rfl, rfl⟩, (Below.refl _ _)⟩
              · intro W193 hW194
                rintro _ rfl
                refine gather_nil ?_
                refine opg_none rfl ?_
                have hB197 : Below w.heap.size w W193 := (below_step (below_step (Below.refl _ _) hE191) hW194)
                refine op_call ent48 rfl (rvalue_spec (hs.ext (flat_lifts _) hB197)) rfl ?_
                rintro _ W198 ⟨rfl, hE199⟩
                exact ⟨⟨_, rfl, rfl⟩, hE199⟩
              · intro W193 hW194
                rintro _ rfl
                refine gather_nil ?_
                refine opg_none rfl ?_
                exact op_leq rfl rfl rfl ⟨⟨_, rfl, rfl⟩, (Below.refl _ _)⟩
              · intro W193 hW194
                rintro _ rfl
                refine gather_nil ?_
                refine opg_none rfl ?_
                exact op_move rfl rfl ⟨⟨_, rfl, rfl⟩, (Below.refl _ _)⟩
              · intro W193 hW194
                rintro _ rfl
                refine gather_nil ?_
                refine opg_t1 rfl rfl (fun hg200 => ?_) (fun h => by rw [h, cond_false])
                exact op_move rfl rfl ⟨⟨_, rfl, (by rw [hg200, cond_true])⟩, (Below.refl _ _)⟩
              · intro W193 hW194
                rintro _ rfl
                intro v201 (hv202 : v201 = bif (decide (valueOf s 9 ≤ 2)) then (.slice A n c) else undef)
                refine gather_nil ?_
                refine opg_t1 rfl rfl (fun hg203 => ?_) (fun h => by rw [h, cond_false])
                have hd204 := of_decide_eq_true hg203
                obtain rfl : v201 = .slice A n c := by rw [hv202, hg203, cond_true]
                have hB205 : Below w.heap.size w W193 := (below_step (below_step (Below.refl _ _) hE191) hW194)
                refine op_call ent48 rfl (rvalue_spec (hs.ext (flat_lifts _) hB205)) rfl ?_
                rintro _ W206 ⟨rfl, hE207⟩
                exact ⟨⟨_, rfl, (by rw [hg203, cond_true])⟩, hE207⟩
              · intro W193 hW194
                rintro _ rfl
                intro v208 (hv209 : v208 = bif (decide (valueOf s 9 ≤ 2)) then (.int .i64 (valueOf s 11)) else undef)
                refine gather_nil ?_
                refine opg_t1 rfl rfl (fun hg210 => ?_) (fun h => by rw [h, cond_false])
                have hd211 := of_decide_eq_true hg210
                obtain rfl : v208 = .int .i64 (valueOf s 11) := by rw [hv209, hg210, cond_true]
                exact op_eql rfl rfl rfl ⟨⟨_, rfl, (by rw [hg210, cond_true])⟩, (Below.refl _ _)⟩
              · intro W193 hW194
                rintro _ rfl
                intro v212 (hv213 : v212 = bif (decide (valueOf s 9 ≤ 2)) then (.bool (decide (valueOf s 11 = 3))) else undef)
                refine gather_nil ?_
                refine opg_none rfl ?_
                exact op_and rfl rfl rfl (fun h => by rw [hv213, h, cond_true]) rfl ⟨⟨_, rfl, rfl⟩, (Below.refl _ _)⟩
              intro W214 hW215
              rintro _ rfl
              refine gather_nil ?_
              refine (then_norm ?_)
              refine wc_cond (b := (decide (valueOf s 9 ≤ 2)) && (decide (valueOf s 11 = 3))) rfl (fun hc216 => ?_) (fun hc216 => ?_)
              · refine wc_region ?_
                refine wl_op rfl (op_move rfl rfl ?_)
                refine wl_op rfl (op_build (v := .agg #[.int .i64 9, .int .i64 11]) rfl (fun w => by kernel_rfl) rfl ?_)
                refine wl_op rfl (op_buildSlice (cs := #[.int .i64 9, .int .i64 11]) (e := 29) rfl (fun w => by kernel_rfl) rfl ?_)
                intro W217 b218 hN219
                have hb220 : W217.heap[b218]? = some (.cells #[.int .i64 9, .int .i64 11] 29 (0, 0)) := hN219.blk
                have hB225 : Below w.heap.size w W217 := (below_new (below_step (below_step (Below.refl _ _) hE191) hW215) hN219)
                refine wl_op rfl (op_appendO (enc := encQ) (9, 11) rfl rfl app25 rfl rfl (Own.ext (Own.ext hown hW215) hN219.ext) (cells_blk hb220) rfl rfl (by first | (simp only [List.length_nil]; omega) | (have := clash_le s (0 + 1); omega) | (have := clash_le s (1 + 1); omega) | (have := clash_le s (2 + 1); omega) | (have := clash_le s (3 + 1); omega) | (have := clash_le s (4 + 1); omega) | (have := clash_le s (5 + 1); omega) | (have := clash_le s (6 + 1); omega)) (by first | (simp only [List.length_nil]; omega) | (have := clash_le s (0 + 1); omega) | (have := clash_le s (1 + 1); omega) | (have := clash_le s (2 + 1); omega) | (have := clash_le s (3 + 1); omega) | (have := clash_le s (4 + 1); omega) | (have := clash_le s (5 + 1); omega) | (have := clash_le s (6 + 1); omega)) hB225.size rfl ?_)
                intro v221 W222 ho223 hg224
                refine wl_op rfl (op_assign rfl rfl ?_)
                refine (wl_done (then_norm ?_))
                have hb : badOf s (⟨9, 11, fun p q => (decide (p < 3)) && (decide (q = 3))⟩) = true := by rw [bad5]; exact hc216
                have hB226 : Below w.heap.size w W222 := (below_grown hB225 (Own.ext (Own.ext hown hW215) hN219.ext) hg224 (Nat.le_refl _))
                exact ⟨v221, ⟨rfl, rfl, rfl, trivial⟩, hB226, (by rw [take_filter_t (rfl : clashRows[5]? = some _) hb, List.map_append]; exact ho223)⟩
              · refine wc_skip ?_
                refine (then_norm ?_)
                have hb : badOf s (⟨9, 11, fun p q => (decide (p < 3)) && (decide (q = 3))⟩) = false := by rw [bad5]; exact hc216
                have hB227 : Below w.heap.size w W214 := (below_step (below_step (Below.refl _ _) hE191) hW215)
                exact ⟨v, ⟨rfl, rfl, rfl, trivial⟩, hB227, (by rw [take_filter_f (rfl : clashRows[5]? = some _) hb]; exact (Own.ext hown hW215))⟩
            · rintro l' W192 ⟨v, hsub, hE228, hown⟩
              refine WC.sub _ hsub ?_
              refine wc_join (fun l' w' => ∃ (v : Value), Sub [(2, .slice none 0 0), (3, v)] l' ∧ Below w.heap.size w w' ∧ (Own encQ w.heap.size 29 2 w' v (((clashRows.take (6 + 1)).filter (badOf s)).map pairOf))) ?_ ?_
              · refine wc_seq ?_
                refine wc_text [(0, .slice A n c), (2, .slice none 0 0), (3, v)] ⟨rfl, rfl, rfl, trivial⟩ [fun v _ => v = .slice A n c, fun v _ => v = .int .i64 (valueOf s 10), fun v _ => v = .bool (decide (valueOf s 10 = 0)), fun v _ => v = .bool (decide (valueOf s 10 = 0)), fun v _ => v = (bif (decide (valueOf s 10 = 0)) then (.slice A n c) else undef), fun v _ => v = (bif (decide (valueOf s 10 = 0)) then (.int .i64 (valueOf s 13)) else undef), fun v _ => v = (bif (decide (valueOf s 10 = 0)) then (.bool (decide (valueOf s 13 = 4))) else undef), fun v _ => v = .bool ((decide (valueOf s 10 = 0)) && (decide (valueOf s 13 = 4)))] [[], [0], [1], [2], [3], [3, 4], [3, 5], [3, 6]] [7] rfl rfl rfl ⟨fun _ _ _ _ h => h, fun _ _ _ _ h => h, fun _ _ _ _ h => h, fun _ _ _ _ h => h, fun _ _ _ _ h => h, fun _ _ _ _ h => h, fun _ _ _ _ h => h, fun _ _ _ _ h => h, trivial⟩ ⟨?_, ?_, ?_, ?_, ?_, ?_, ?_, ?_, trivial⟩ ?_
                · intro W230 hW231
                  refine gather_nil ?_
                  refine opg_none rfl ?_
                  exact op_move rfl rfl ⟨⟨_, rfl, rfl⟩, (Below.refl _ _)⟩
                · intro W230 hW231
                  rintro _ rfl
                  refine gather_nil ?_
                  refine opg_none rfl ?_
                  have hB234 : Below w.heap.size w W230 := (below_step (below_step (Below.refl _ _) hE228) hW231)
                  refine op_call ent48 rfl (rvalue_spec (hs.ext (flat_lifts _) hB234)) rfl ?_
                  rintro _ W235 ⟨rfl, hE236⟩
                  exact ⟨⟨_, rfl, rfl⟩, hE236⟩
                · intro W230 hW231
                  rintro _ rfl
                  refine gather_nil ?_
                  refine opg_none rfl ?_
                  exact op_eql rfl rfl rfl ⟨⟨_, rfl, rfl⟩, (Below.refl _ _)⟩
                · intro W230 hW231
                  rintro _ rfl
                  refine gather_nil ?_
                  refine opg_none rfl ?_
                  exact op_move rfl rfl ⟨⟨_, rfl, rfl⟩, (Below.refl _ _)⟩
                · intro W230 hW231
                  rintro _ rfl
                  refine gather_nil ?_
                  refine opg_t1 rfl rfl (fun hg237 => ?_) (fun h => by rw [h, cond_false])
                  exact op_move rfl rfl ⟨⟨_, rfl, (by rw [hg237, cond_true])⟩, (Below.refl _ _)⟩
                · intro W230 hW231
                  rintro _ rfl
                  intro v238 (hv239 : v238 = bif (decide (valueOf s 10 = 0)) then (.slice A n c) else undef)
                  refine gather_nil ?_
                  refine opg_t1 rfl rfl (fun hg240 => ?_) (fun h => by rw [h, cond_false])
                  have hd241 := of_decide_eq_true hg240
                  obtain rfl : v238 = .slice A n c := by rw [hv239, hg240, cond_true]
                  have hB242 : Below w.heap.size w W230 := (below_step (below_step (Below.refl _ _) hE228) hW231)
                  refine op_call ent48 rfl (rvalue_spec (hs.ext (flat_lifts _) hB242)) rfl ?_
                  rintro _ W243 ⟨rfl, hE244⟩
                  exact ⟨⟨_, rfl, (by rw [hg240, cond_true])⟩, hE244⟩
                · intro W230 hW231
                  rintro _ rfl
                  intro v245 (hv246 : v245 = bif (decide (valueOf s 10 = 0)) then (.int .i64 (valueOf s 13)) else undef)
                  refine gather_nil ?_
                  refine opg_t1 rfl rfl (fun hg247 => ?_) (fun h => by rw [h, cond_false])
                  have hd248 := of_decide_eq_true hg247
                  obtain rfl : v245 = .int .i64 (valueOf s 13) := by rw [hv246, hg247, cond_true]
                  exact op_eql rfl rfl rfl ⟨⟨_, rfl, (by rw [hg247, cond_true])⟩, (Below.refl _ _)⟩
                · intro W230 hW231
                  rintro _ rfl
                  intro v249 (hv250 : v249 = bif (decide (valueOf s 10 = 0)) then (.bool (decide (valueOf s 13 = 4))) else undef)
                  refine gather_nil ?_
                  refine opg_none rfl ?_
                  exact op_and rfl rfl rfl (fun h => by rw [hv250, h, cond_true]) rfl ⟨⟨_, rfl, rfl⟩, (Below.refl _ _)⟩
                intro W251 hW252
                rintro _ rfl
                refine gather_nil ?_
                refine (then_norm ?_)
                refine wc_cond (b := (decide (valueOf s 10 = 0)) && (decide (valueOf s 13 = 4))) rfl (fun hc253 => ?_) (fun hc253 => ?_)
                · refine wc_region ?_
                  refine wl_op rfl (op_move rfl rfl ?_)
                  refine wl_op rfl (op_build (v := .agg #[.int .i64 10, .int .i64 13]) rfl (fun w => by kernel_rfl) rfl ?_)
                  refine wl_op rfl (op_buildSlice (cs := #[.int .i64 10, .int .i64 13]) (e := 29) rfl (fun w => by kernel_rfl) rfl ?_)
                  intro W254 b255 hN256
                  have hb257 : W254.heap[b255]? = some (.cells #[.int .i64 10, .int .i64 13] 29 (0, 0)) := hN256.blk
                  have hB262 : Below w.heap.size w W254 := (below_new (below_step (below_step (Below.refl _ _) hE228) hW252) hN256)
                  refine wl_op rfl (op_appendO (enc := encQ) (10, 13) rfl rfl app25 rfl rfl (Own.ext (Own.ext hown hW252) hN256.ext) (cells_blk hb257) rfl rfl (by first | (simp only [List.length_nil]; omega) | (have := clash_le s (0 + 1); omega) | (have := clash_le s (1 + 1); omega) | (have := clash_le s (2 + 1); omega) | (have := clash_le s (3 + 1); omega) | (have := clash_le s (4 + 1); omega) | (have := clash_le s (5 + 1); omega) | (have := clash_le s (6 + 1); omega)) (by first | (simp only [List.length_nil]; omega) | (have := clash_le s (0 + 1); omega) | (have := clash_le s (1 + 1); omega) | (have := clash_le s (2 + 1); omega) | (have := clash_le s (3 + 1); omega) | (have := clash_le s (4 + 1); omega) | (have := clash_le s (5 + 1); omega) | (have := clash_le s (6 + 1); omega)) hB262.size rfl ?_)
                  intro v258 W259 ho260 hg261
                  refine wl_op rfl (op_assign rfl rfl ?_)
                  refine (wl_done (then_norm ?_))
                  have hb : badOf s (⟨10, 13, bothB 0 4⟩) = true := hc253
                  have hB263 : Below w.heap.size w W259 := (below_grown hB262 (Own.ext (Own.ext hown hW252) hN256.ext) hg261 (Nat.le_refl _))
                  exact ⟨v258, ⟨rfl, rfl, trivial⟩, hB263, (by rw [take_filter_t (rfl : clashRows[6]? = some _) hb, List.map_append]; exact ho260)⟩
                · refine wc_skip ?_
                  refine (then_norm ?_)
                  have hb : badOf s (⟨10, 13, bothB 0 4⟩) = false := hc253
                  have hB264 : Below w.heap.size w W251 := (below_step (below_step (Below.refl _ _) hE228) hW252)
                  exact ⟨v, ⟨rfl, rfl, trivial⟩, hB264, (by rw [take_filter_f (rfl : clashRows[6]? = some _) hb]; exact (Own.ext hown hW252))⟩
              · rintro l' W229 ⟨v, hsub, hE265, hown⟩
                refine WC.sub _ hsub ?_
                refine wc_seq ?_
                refine wc_region ?_
                refine wl_op rfl (op_move rfl rfl ?_)
                refine wl_op rfl (op_assign rfl rfl ?_)
                refine (wl_done (then_norm ?_))
                refine wc_ret ?_
                have hB266 : Below w.heap.size w W229 := (below_step (Below.refl _ _) hE265)
                obtain ⟨A267, n268, c269, hv270, hr271, hn272⟩ := rd_of_Own hown (fun _ => rfl) (by have := clash_le s (6 + 1); omega)
                subst hv270
                refine ⟨[_], ⟨rfl, trivial⟩, ⟨A267, n268, c269, ?_, hr271, hB266⟩⟩
                exact rfl

end Go.Eng
