/- Lemmas for a law of the seat: what functions of the program do, each stated as a contract of its own (module S18b). -/
import Derived.Test.YtbjafckcpkhoaaaS18a
import Derived.Test.YtbjafckcpkhoaaaChecked
set_option linter.unusedVariables false
set_option maxRecDepth 100000
namespace Go.Eng
open Go.RowKit Go.Shelf Go.Proofs Pol

theorem und91 : Und Try.prog 91 (.int .u64) := by unfold Und; kernel_rfl
theorem und3 : Und Try.prog 3 (.int .i64) := by unfold Und; kernel_rfl
theorem ent74 : Enters Try.prog 74 := enters_of Try.func74 (by kernel_rfl) rfl
theorem ent73 : Enters Try.prog 73 := enters_of Try.func73 (by kernel_rfl) rfl

theorem value1_spec {w : World} {a b k : Int} (h1 : 0 ≤ a) (h2 : a ≤ 1000) (h3 : 0 ≤ k) (h4 : k ≤ 1000) : Ret Try.prog 74 #[.agg #[.int .i64 a, .int .i64 b], .int .i64 k] w (fun v w' => v = .int .i64 (a - k) ∧ Below w.heap.size w w') := by
  refine ret_of (args := [.agg #[.int .i64 a, .int .i64 b], .int .i64 k]) Try.func74 rfl Try.ntmps74 rfl (rs := [.tmp 4]) rfl ?_
  refine wc_seq ?_
  refine wc_region ?_
  refine wl_op rfl (op_box rfl rfl ?_)
  intro W1 b2 hN3
  have hb4 : W1.heap[b2]? = some (.cells #[.int .i64 a, .int .i64 b] 46 (0, 0)) := hN3.blk
  refine wl_op rfl (op_assign rfl rfl ?_)
  refine (wl_done (then_norm ?_))
  refine wc_seq ?_
  refine wc_region ?_
  refine wl_op rfl (op_fieldAddr rfl fa46_0 rfl ?_)
  refine wl_op rfl (op_load1 (v := .int .i64 a) rfl agg3 (cell_blk hb4 rfl) rfl ?_)
  refine wl_op rfl (op_move rfl rfl ?_)
  refine wl_op rfl (op_sub (r := a - k) rfl rfl (by omega) (by omega) rfl ?_)
  refine wl_op rfl (op_assign rfl rfl ?_)
  refine (wl_done (then_norm ?_))
  refine WC.sub [(4, .int .i64 (a - k))] ⟨rfl, trivial⟩ ?_
  refine wc_ret ?_
  have hB5 : Below w.heap.size w W1 := (below_new (Below.refl _ _) hN3)
  refine ⟨[_], ⟨rfl, trivial⟩, ⟨?_, hB5⟩⟩
  exact rfl

/-- kinds within bounds, ascending -/
structure Asc (s : List Pol) : Prop where
  lo : ∀ (i : Nat) (x : Pol), s[i]? = some x → 1 ≤ x.kind ∧ x.kind ≤ 13
  up : ∀ (i j : Nat) (x y : Pol), i < j → s[i]? = some x → s[j]? = some y → x.kind < y.kind
theorem asc_lo {s : List Pol} (h : Asc s) {i : Nat} {x : Pol} (hx : s[i]? = some x) : 0 ≤ x.kind ∧ x.kind ≤ 1000 := by have := h.lo i x hx; omega
theorem bs_lo {s : List Pol} (h : Asc s) {m : Nat} {y : Pol} {k : Int} (hy : s[m]? = some y) (hk : y.kind - k < 0) : ∀ (j : Nat) (x : Pol), j < m + 1 → s[j]? = some x → x.kind < k := by
  intro j x hj hx
  rcases Nat.lt_or_ge j m with h1 | h1
  · have := h.up j m x y h1 hx hy; omega
  · obtain rfl : j = m := by omega
    rw [hy] at hx; cases hx; omega
theorem bs_hi {s : List Pol} (h : Asc s) {m : Nat} {y : Pol} {k : Int} (hy : s[m]? = some y) (hk : 0 ≤ y.kind - k) : ∀ (j : Nat) (x : Pol), m ≤ j → s[j]? = some x → k ≤ x.kind := by
  intro j x hj hx
  rcases Nat.lt_or_ge m j with h1 | h1
  · have := h.up m j y x h1 hy hx; omega
  · obtain rfl : j = m := by omega
    rw [hy] at hx; cases hx; omega
theorem bs_end {s : List Pol} {n i : Nat} {k : Int} {y : Pol} (hn : s.length = n) (hy : i < s.length → s[i]? = some y) :
    (decide ((i : Int) < ((n : Nat) : Int)) && decide (y.kind - k = 0)) = true ↔ ∃ x : Pol, s[i]? = some x ∧ x.kind = k := by
  rw [Bool.and_eq_true, decide_eq_true_eq, decide_eq_true_eq]
  constructor
  · rintro ⟨h1, h2⟩; exact ⟨y, hy (by omega), by omega⟩
  · rintro ⟨x, h1, h2⟩
    have := (List.getElem?_eq_some_iff.1 h1).1
    rw [hy this] at h1; cases h1; exact ⟨by omega, by omega⟩

theorem bsearch_spec {w : World} {A : Option Addr} {n c : Nat} {s : List Pol} {k : Int} (hs : RdP w A n s) (ha : Asc s) (hk0 : 0 ≤ k) (hk1 : k ≤ 1000) : Ret Try.prog 73 #[.slice A n c, .int .i64 k, .func (.func 74) #[] #[]] w (fun v w' => ∃ (i : Nat) (f : Bool), v = .tuple #[.int .i64 (i : Int), .bool f] ∧ i ≤ n ∧ (∀ (j : Nat) (x : Pol), j < i → s[j]? = some x → x.kind < k) ∧ (∀ (j : Nat) (x : Pol), i ≤ j → s[j]? = some x → k ≤ x.kind) ∧ (f = true ↔ ∃ x : Pol, s[i]? = some x ∧ x.kind = k) ∧ Below w.heap.size w w') := by
  obtain ⟨bs1, os2, hA3, hc4⟩ := hs.flat
  have hln5 := hs.len
  have hbd6 := hs.bd
  have hlen_s := hs.len
  refine ret_of (args := [.slice A n c, .int .i64 k, .func (.func 74) #[] #[]]) Try.func73 rfl Try.ntmps73 rfl (rs := [.tmp 6, .tmp 7]) rfl ?_
  refine wc_seq ?_
  refine wc_region ?_
  refine wl_op rfl (op_assign rfl rfl ?_)
  refine wl_op rfl (op_assign rfl rfl ?_)
  refine (wl_done (then_norm ?_))
  refine wc_seq ?_
  refine wc_region ?_
  refine wl_op rfl (op_move rfl rfl ?_)
  refine wl_op rfl (op_len_slice rfl rfl und22 rfl rfl ?_)
  refine wl_op rfl (op_assign rfl rfl ?_)
  refine (wl_done (then_norm ?_))
  refine wc_seq ?_
  refine wc_region ?_
  refine wl_op rfl (op_move rfl rfl ?_)
  refine wl_op rfl (op_assign rfl rfl ?_)
  refine wl_op rfl (op_assign rfl rfl ?_)
  refine (wl_done (then_norm ?_))
  refine wc_seq ?_
  refine wc_block ?_
  refine wc_loop (σ := Nat × Nat × World) (fun st_ => [(0, .slice A n c), (1, .int .i64 k), (2, .func (.func 74) #[] #[]), (6, .int .i64 0), (7, .bool false), (8, .int .i64 ((n : Nat) : Int)), (9, .int .i64 (st_.1 : Int)), (10, .int .i64 (st_.2.1 : Int))]) (fun st_ => st_.2.2) (fun st_ => (st_.1 ≤ st_.2.1) ∧ (st_.2.1 ≤ n) ∧ (∀ (m : Nat) (x : Pol), m < st_.1 → s[m]? = some x → x.kind < k) ∧ (∀ (m : Nat) (x : Pol), st_.2.1 ≤ m → s[m]? = some x → k ≤ x.kind) ∧ (Below w.heap.size w st_.2.2)) (fun st_ => st_.2.1 - st_.1) (0, n, w) ⟨(by first | omega | (dsimp only; omega)), (by first | omega | (dsimp only; omega)), (fun m x hm => absurd hm (by omega)), (fun m x hm hx => by have := (List.getElem?_eq_some_iff.1 hx).1; dsimp only at hm; omega), (Below.refl _ _)⟩ ⟨rfl, rfl, rfl, rfl, rfl, rfl, rfl, rfl, trivial⟩ rfl ?_
  rintro ⟨i, j, W7⟩ ⟨hij, hjn, hlo, hhi, hE8⟩
  dsimp only at hij hjn hlo hhi hE8
  refine wc_at [(0, .slice A n c), (1, .int .i64 k), (2, .func (.func 74) #[] #[]), (6, .int .i64 0), (7, .bool false), (8, .int .i64 ((n : Nat) : Int)), (9, .int .i64 (i : Int)), (10, .int .i64 (j : Int))] W7 ⟨rfl, rfl, rfl, rfl, rfl, rfl, rfl, rfl, trivial⟩ rfl ?_
  refine wc_seq ?_
  refine wc_seq ?_
  refine wc_region ?_
  refine wl_op rfl (op_move rfl rfl ?_)
  refine wl_op rfl (op_move rfl rfl ?_)
  refine wl_op rfl (op_lss rfl rfl rfl ?_)
  refine (wl_done (then_norm ?_))
  refine wc_cond (b := decide ((i : Int) < (j : Int))) rfl (fun hc9 => ?_) (fun hc9 => ?_)
  · have hc9r := hc9
    have hc9 := of_decide_eq_true hc9
    refine wc_skip ?_
    refine (then_norm ?_)
    refine wc_block ?_
    refine wc_seq ?_
    refine wc_region ?_
    refine wl_op rfl (op_move rfl rfl ?_)
    refine wl_op rfl (op_move rfl rfl ?_)
    refine wl_op rfl (op_add (r := ((i + j : Nat) : Int)) rfl rfl (by omega) (by omega) rfl ?_)
    refine wl_op rfl (op_conv_int (r := ((i + j : Nat) : Int)) rfl und91 (wrap_in (by simp [IntKind.min, IntKind.max, IntKind.bits, IntKind.signed]; omega)) ⟨_, und3⟩ rfl ?_)
    refine wl_op rfl (op_shrN (n := i + j) (s := 1) rfl rfl rfl rfl ?_)
    refine wl_op rfl (op_conv_int (r := (((i + j) / 2 ^ 1 : Nat) : Int)) rfl und3 (wrap_in (by simp [IntKind.min, IntKind.max, IntKind.bits, IntKind.signed]; omega)) ⟨_, und91⟩ rfl ?_)
    refine wl_op rfl (op_assign rfl rfl ?_)
    refine (wl_done (then_norm ?_))
    refine wc_seq ?_
    refine wc_region ?_
    refine wl_op rfl (op_move rfl rfl ?_)
    refine wl_op rfl (op_move rfl rfl ?_)
    refine wl_op rfl (op_move rfl rfl ?_)
    obtain ⟨x_s_i_j_2_1, hx_s_i_j_2_1⟩ : ∃ x, s[(i + j) / 2 ^ 1]? = some x := ⟨_, List.getElem?_eq_getElem (by have := hs.len; omega)⟩
    refine wl_op rfl (op_indexAddr (j := (i + j) / 2 ^ 1) rfl rfl und22 sz46 (hA3 (by omega)) rfl (by omega) rfl ?_)
    have hB10 : Below w.heap.size w W7 := (below_step (Below.refl _ _) hE8)
    refine wl_op rfl (op_loadN (vs := [.int .i64 x_s_i_j_2_1.kind, .int .i64 x_s_i_j_2_1.val]) rfl agg46 sz46 rfl ((hc4 ((i + j) / 2 ^ 1) x_s_i_j_2_1 hx_s_i_j_2_1).ext hB10) rfl ?_)
    refine wl_op rfl (op_move rfl rfl ?_)
    refine wl_op rfl (op_callv rfl ent74 rfl rfl (value1_spec (asc_lo ha (by assumption)).1 (asc_lo ha (by assumption)).2 hk0 hk1) rfl ?_)
    rintro _ W11 ⟨rfl, hE12⟩
    refine wl_op rfl (op_lss rfl rfl rfl ?_)
    refine (wl_done (then_norm ?_))
    refine wc_cond (b := decide (x_s_i_j_2_1.kind - k < 0)) rfl (fun hc13 => ?_) (fun hc13 => ?_)
    · have hc13r := hc13
      have hc13 := of_decide_eq_true hc13
      have HC1 := hc13
      refine wc_region ?_
      refine wl_op rfl (op_move rfl rfl ?_)
      refine wl_op rfl (op_add (r := (((i + j) / 2 ^ 1 + 1 : Nat) : Int)) rfl rfl (by omega) (by omega) rfl ?_)
      refine wl_op rfl (op_assign rfl rfl ?_)
      refine (wl_done (block_norm (then_norm ?_)))
      have hB14 : Below w.heap.size w W11 := (below_step hB10 hE12)
      refine ⟨(((i + j) / 2 ^ 1 + 1), j, W11), ⟨(by first | omega | (dsimp only; omega)), (by first | omega | (dsimp only; omega)), (bs_lo ha hx_s_i_j_2_1 HC1), (hhi), hB14⟩, ?_, ⟨rfl, rfl, rfl, rfl, rfl, rfl, rfl, rfl, trivial⟩, rfl⟩
      · dsimp only; omega
    · have hc13r := hc13
      have hc13 := of_decide_eq_false hc13
      have HC1 := hc13
      refine wc_region ?_
      refine wl_op rfl (op_move rfl rfl ?_)
      refine wl_op rfl (op_assign rfl rfl ?_)
      refine (wl_done (block_norm (then_norm ?_)))
      have hB15 : Below w.heap.size w W11 := (below_step hB10 hE12)
      refine ⟨(i, ((i + j) / 2 ^ 1), W11), ⟨(by first | omega | (dsimp only; omega)), (by first | omega | (dsimp only; omega)), (hlo), (bs_hi ha hx_s_i_j_2_1 (by omega)), hB15⟩, ?_, ⟨rfl, rfl, rfl, rfl, rfl, rfl, rfl, rfl, trivial⟩, rfl⟩
      · dsimp only; omega
  · have hc9r := hc9
    have hc9 := of_decide_eq_false hc9
    refine wc_exit ?_
    refine (then_exit (then_exit (block_here (then_norm ?_))))
    refine wc_seq ?_
    obtain ⟨x_s_i, hx_s_i⟩ : ∃ x, (i < s.length → s[i]? = some x) := by
      by_cases h : i < s.length
      · exact ⟨_, fun _ => List.getElem?_eq_getElem h⟩
      · exact ⟨(⟨0, 0⟩ : Pol), fun h1 => absurd h1 h⟩
    refine wc_text [(0, .slice A n c), (1, .int .i64 k), (2, .func (.func 74) #[] #[]), (8, .int .i64 ((n : Nat) : Int)), (9, .int .i64 (i : Int))] ⟨rfl, rfl, rfl, rfl, rfl, trivial⟩ [fun v _ => v = .int .i64 (i : Int), fun v _ => v = .int .i64 (i : Int), fun v _ => v = .int .i64 ((n : Nat) : Int), fun v _ => v = .bool (decide ((i : Int) < ((n : Nat) : Int))), fun v _ => v = .bool (decide ((i : Int) < ((n : Nat) : Int))), fun v _ => v = (bif (decide ((i : Int) < ((n : Nat) : Int))) then (.func (.func 74) #[] #[]) else undef), fun v _ => v = (bif (decide ((i : Int) < ((n : Nat) : Int))) then (.slice A n c) else undef), fun v _ => v = (bif (decide ((i : Int) < ((n : Nat) : Int))) then (.int .i64 (i : Int)) else undef), fun v _ => v = (bif (decide ((i : Int) < ((n : Nat) : Int))) then (.pointer (some ⟨bs1, os2 + i * 2, none⟩)) else undef), fun v _ => v = (bif (decide ((i : Int) < ((n : Nat) : Int))) then (.agg #[.int .i64 x_s_i.kind, .int .i64 x_s_i.val]) else undef), fun v _ => v = (bif (decide ((i : Int) < ((n : Nat) : Int))) then (.int .i64 k) else undef), fun v _ => v = (bif (decide ((i : Int) < ((n : Nat) : Int))) then (.int .i64 (x_s_i.kind - k)) else undef), fun v _ => v = (bif (decide ((i : Int) < ((n : Nat) : Int))) then (.bool (decide (x_s_i.kind - k = 0))) else undef), fun v _ => v = .bool ((decide ((i : Int) < ((n : Nat) : Int))) && (decide (x_s_i.kind - k = 0))), fun v _ => v = .int .i64 (i : Int), fun v _ => v = .bool ((decide ((i : Int) < ((n : Nat) : Int))) && (decide (x_s_i.kind - k = 0)))] [[], [], [], [1, 2], [3], [4], [4], [4], [4, 6, 7], [4, 8], [4], [4, 5, 9, 10], [4, 11], [4, 12], [0], [13]] [14, 15] rfl rfl rfl ⟨fun _ _ _ _ h => h, fun _ _ _ _ h => h, fun _ _ _ _ h => h, fun _ _ _ _ h => h, fun _ _ _ _ h => h, fun _ _ _ _ h => h, fun _ _ _ _ h => h, fun _ _ _ _ h => h, fun _ _ _ _ h => h, fun _ _ _ _ h => h, fun _ _ _ _ h => h, fun _ _ _ _ h => h, fun _ _ _ _ h => h, fun _ _ _ _ h => h, fun _ _ _ _ h => h, fun _ _ _ _ h => h, trivial⟩ ⟨?_, ?_, ?_, ?_, ?_, ?_, ?_, ?_, ?_, ?_, ?_, ?_, ?_, ?_, ?_, ?_, trivial⟩ ?_
    · intro W16 hW17
      refine gather_nil ?_
      refine opg_none rfl ?_
      exact op_move rfl rfl ⟨told rfl rfl rfl, (Below.refl _ _)⟩
    · intro W16 hW17
      refine gather_nil ?_
      refine opg_none rfl ?_
      exact op_move rfl rfl ⟨told rfl rfl rfl, (Below.refl _ _)⟩
    · intro W16 hW17
      refine gather_nil ?_
      refine opg_none rfl ?_
      exact op_move rfl rfl ⟨told rfl rfl rfl, (Below.refl _ _)⟩
    · intro W16 hW17
      rintro _ rfl
      rintro _ rfl
      refine gather_nil ?_
      refine opg_none rfl ?_
      exact op_lss rfl rfl rfl ⟨told rfl rfl rfl, (Below.refl _ _)⟩
    · intro W16 hW17
      rintro _ rfl
      refine gather_nil ?_
      refine opg_none rfl ?_
      exact op_move rfl rfl ⟨told rfl rfl rfl, (Below.refl _ _)⟩
    · intro W16 hW17
      rintro _ rfl
      refine gather_nil ?_
      refine opg_t1 rfl rfl (fun hg19 => ?_) (fun h => by rw [h, cond_false])
      exact op_move rfl rfl ⟨told rfl rfl (by rw [hg19, cond_true]), (Below.refl _ _)⟩
    · intro W16 hW17
      rintro _ rfl
      refine gather_nil ?_
      refine opg_t1 rfl rfl (fun hg20 => ?_) (fun h => by rw [h, cond_false])
      exact op_move rfl rfl ⟨told rfl rfl (by rw [hg20, cond_true]), (Below.refl _ _)⟩
    · intro W16 hW17
      rintro _ rfl
      refine gather_nil ?_
      refine opg_t1 rfl rfl (fun hg21 => ?_) (fun h => by rw [h, cond_false])
      exact op_move rfl rfl ⟨told rfl rfl (by rw [hg21, cond_true]), (Below.refl _ _)⟩
    · intro W16 hW17
      rintro _ rfl
      intro v22 (hv23 : v22 = bif (decide ((i : Int) < ((n : Nat) : Int))) then (.slice A n c) else undef)
      intro v24 (hv25 : v24 = bif (decide ((i : Int) < ((n : Nat) : Int))) then (.int .i64 (i : Int)) else undef)
      refine gather_nil ?_
      refine opg_t1 rfl rfl (fun hg26 => ?_) (fun h => by rw [h, cond_false])
      have hd27 := of_decide_eq_true hg26
      obtain rfl : v22 = .slice A n c := by rw [hv23, hg26, cond_true]
      obtain rfl : v24 = .int .i64 (i : Int) := by rw [hv25, hg26, cond_true]
      exact op_indexAddr (j := i) rfl rfl und22 sz46 (hA3 (by omega)) rfl (by omega) rfl ⟨told rfl rfl (by rw [hg26, cond_true]), (Below.refl _ _)⟩
    · intro W16 hW17
      rintro _ rfl
      intro v28 (hv29 : v28 = bif (decide ((i : Int) < ((n : Nat) : Int))) then (.pointer (some ⟨bs1, os2 + i * 2, none⟩)) else undef)
      refine gather_nil ?_
      refine opg_t1 rfl rfl (fun hg30 => ?_) (fun h => by rw [h, cond_false])
      have hd31 := of_decide_eq_true hg30
      obtain rfl : v28 = .pointer (some ⟨bs1, os2 + i * 2, none⟩) := by rw [hv29, hg30, cond_true]
      have hB32 : Below w.heap.size w W16 := (below_step (below_step (Below.refl _ _) hE8) hW17)
      exact op_loadN (vs := [.int .i64 x_s_i.kind, .int .i64 x_s_i.val]) rfl agg46 sz46 rfl ((hc4 i x_s_i (hx_s_i (by have := hs.len; omega))).ext hB32) rfl ⟨told rfl rfl (by rw [hg30, cond_true]), (Below.refl _ _)⟩
    · intro W16 hW17
      rintro _ rfl
      refine gather_nil ?_
      refine opg_t1 rfl rfl (fun hg33 => ?_) (fun h => by rw [h, cond_false])
      exact op_move rfl rfl ⟨told rfl rfl (by rw [hg33, cond_true]), (Below.refl _ _)⟩
    · intro W16 hW17
      rintro _ rfl
      intro v34 (hv35 : v34 = bif (decide ((i : Int) < ((n : Nat) : Int))) then (.func (.func 74) #[] #[]) else undef)
      intro v36 (hv37 : v36 = bif (decide ((i : Int) < ((n : Nat) : Int))) then (.agg #[.int .i64 x_s_i.kind, .int .i64 x_s_i.val]) else undef)
      intro v38 (hv39 : v38 = bif (decide ((i : Int) < ((n : Nat) : Int))) then (.int .i64 k) else undef)
      refine gather_nil ?_
      refine opg_t1 rfl rfl (fun hg40 => ?_) (fun h => by rw [h, cond_false])
      have hd41 := of_decide_eq_true hg40
      obtain rfl : v34 = .func (.func 74) #[] #[] := by rw [hv35, hg40, cond_true]
      obtain rfl : v36 = .agg #[.int .i64 x_s_i.kind, .int .i64 x_s_i.val] := by rw [hv37, hg40, cond_true]
      obtain rfl : v38 = .int .i64 k := by rw [hv39, hg40, cond_true]
      refine op_callv rfl ent74 rfl rfl (value1_spec (asc_lo ha (hx_s_i (by have := hs.len; omega))).1 (asc_lo ha (hx_s_i (by have := hs.len; omega))).2 hk0 hk1) rfl ?_
      rintro _ W42 ⟨rfl, hE43⟩
      exact ⟨told rfl rfl (by rw [hg40, cond_true]), hE43⟩
    · intro W16 hW17
      rintro _ rfl
      intro v44 (hv45 : v44 = bif (decide ((i : Int) < ((n : Nat) : Int))) then (.int .i64 (x_s_i.kind - k)) else undef)
      refine gather_nil ?_
      refine opg_t1 rfl rfl (fun hg46 => ?_) (fun h => by rw [h, cond_false])
      have hd47 := of_decide_eq_true hg46
      obtain rfl : v44 = .int .i64 (x_s_i.kind - k) := by rw [hv45, hg46, cond_true]
      exact op_eql rfl rfl rfl ⟨told rfl rfl (by rw [hg46, cond_true]), (Below.refl _ _)⟩
    · intro W16 hW17
      rintro _ rfl
      intro v48 (hv49 : v48 = bif (decide ((i : Int) < ((n : Nat) : Int))) then (.bool (decide (x_s_i.kind - k = 0))) else undef)
      refine gather_nil ?_
      refine opg_none rfl ?_
      exact op_and rfl rfl rfl (fun h => by rw [hv49, h, cond_true]) rfl ⟨told rfl rfl rfl, (Below.refl _ _)⟩
    · intro W16 hW17
      rintro _ rfl
      refine gather_nil ?_
      refine opg_none rfl ?_
      exact op_assign rfl rfl ⟨told rfl rfl rfl, (Below.refl _ _)⟩
    · intro W16 hW17
      rintro _ rfl
      refine gather_nil ?_
      refine opg_none rfl ?_
      exact op_assign rfl rfl ⟨told rfl rfl rfl, (Below.refl _ _)⟩
    intro W50 hW51
    rintro _ rfl
    rintro _ rfl
    refine gather_nil ?_
    refine (then_norm ?_)
    refine wc_ret ?_
    have hB52 : Below w.heap.size w W50 := (below_step (below_step (Below.refl _ _) hE8) hW51)
    refine ⟨[_, _], ⟨rfl, rfl, trivial⟩, ⟨i, _, ?_, (by first | omega | (dsimp only; omega)), hlo, (fun m x hm => hhi m x (by omega)), (bs_end hlen_s hx_s_i), hB52⟩⟩
    exact rfl

def valueOf (s : List Pol) (k : Int) : Int := match s.find? (fun p => decide (p.kind = k)) with
  | some p => p.val
  | none => leastI k
theorem valueOf_some {s : List Pol} (h : Asc s) {i : Nat} {x : Pol} {k : Int} (hx : s[i]? = some x) (hk : x.kind = k) : valueOf s k = x.val := by
  unfold valueOf
  cases hf : s.find? (fun p => decide (p.kind = k)) with
  | none =>
    rw [List.find?_eq_none] at hf
    have := hf x (List.mem_of_getElem? hx)
    simp [hk] at this
  | some p =>
    have h1 := List.find?_some hf
    have h2 := List.mem_of_find?_eq_some hf
    obtain ⟨j, hj, hjp⟩ := List.getElem_of_mem h2
    have h3 : s[j]? = some p := by rw [List.getElem?_eq_getElem hj, hjp]
    have h4 : p.kind = k := by simpa using h1
    have : i = j := by
      rcases Nat.lt_trichotomy i j with h5 | h5 | h5
      · have := h.up i j x p h5 hx h3; omega
      · exact h5
      · have := h.up j i p x h5 h3 hx; omega
    subst this
    rw [hx] at h3; cases h3; rfl
theorem valueOf_none {s : List Pol} {i : Nat} {k : Int} (hlo : ∀ (j : Nat) (x : Pol), j < i → s[j]? = some x → x.kind < k) (hhi : ∀ (j : Nat) (x : Pol), i ≤ j → s[j]? = some x → k ≤ x.kind)
    (ha : Asc s) (h : ¬ ∃ x : Pol, s[i]? = some x ∧ x.kind = k) : valueOf s k = leastI k := by
  unfold valueOf
  have hf : s.find? (fun p => decide (p.kind = k)) = none := by
    rw [List.find?_eq_none]
    intro p hp
    obtain ⟨j, hj, hjp⟩ := List.getElem_of_mem hp
    have h3 : s[j]? = some p := by rw [List.getElem?_eq_getElem hj, hjp]
    simp only [decide_eq_true_eq]
    intro hk
    rcases Nat.lt_trichotomy j i with h5 | h5 | h5
    · have := hlo j p h5 h3; omega
    · subst h5; exact h ⟨p, h3, hk⟩
    · have hi : i < s.length := by omega
      have h6 : s[i]? = some s[i] := List.getElem?_eq_getElem hi
      have h7 := ha.up i j _ p h5 h6 h3
      have h8 := hhi i _ (Nat.le_refl _) h6
      omega
  rw [hf]

theorem value_spec {w : World} {A : Option Addr} {n c : Nat} {s : List Pol} {k : Int} (hs : RdP w A n s) (ha : Asc s) (hk0 : 1 ≤ k) (hk1 : k ≤ 13) : Ret Try.prog 40 #[.slice A n c, .int .i64 k] w (fun v w' => v = .int .i64 (valueOf s k) ∧ Below w.heap.size w w') := by
  obtain ⟨bs1, os2, hA3, hc4⟩ := hs.flat
  have hln5 := hs.len
  have hbd6 := hs.bd
  have hlen_s := hs.len
  refine ret_of (args := [.slice A n c, .int .i64 k]) Try.func40 rfl Try.ntmps40 rfl (rs := [.tmp 4]) rfl ?_
  refine wc_seq ?_
  refine wc_region ?_
  refine wl_op rfl (op_assign rfl rfl ?_)
  refine (wl_done (then_norm ?_))
  refine wc_seq ?_
  refine wc_region ?_
  refine wl_op rfl (op_move rfl rfl ?_)
  refine wl_op rfl (op_move rfl rfl ?_)
  refine wl_op rfl (op_call ent73 rfl (bsearch_spec hs ha (by omega) (by omega)) rfl ?_)
  rintro _ W13 ⟨i7, f8, rfl, hp9, hp10, hp11, hp12, hE14⟩
  refine wl_op rfl (op_move rfl rfl ?_)
  refine wl_op rfl (op_extract (v := .int .i64 (i7 : Int)) rfl rfl rfl ?_)
  refine wl_op rfl (op_extract (v := .bool f8) rfl rfl rfl ?_)
  refine wl_op rfl (op_assign rfl rfl ?_)
  refine wl_op rfl (op_assign rfl rfl ?_)
  refine (wl_done (then_norm ?_))
  refine WC.sub [(0, .slice A n c), (1, .int .i64 k), (4, .int .i64 0), (5, .int .i64 (i7 : Int)), (6, .bool f8)] ⟨rfl, rfl, rfl, rfl, rfl, trivial⟩ ?_
  refine wc_seq ?_
  refine wc_seq ?_
  refine wc_region ?_
  refine wl_op rfl (op_move rfl rfl ?_)
  refine wl_op rfl (op_not rfl rfl ?_)
  refine (wl_done (then_norm ?_))
  refine wc_cond (b := !f8) rfl (fun hc15 => ?_) (fun hc15 => ?_)
  · have hne : ¬ ∃ x : Pol, s[i7]? = some x ∧ x.kind = k := fun h => by rw [hp12.2 h] at hc15; cases hc15
    refine wc_seq ?_
    refine wc_region ?_
    refine wl_op rfl (op_move rfl rfl ?_)
    refine wl_op rfl (op_call ent59 rfl (least_spec (by omega) (by omega)) rfl ?_)
    rintro _ W16 ⟨rfl, hE17⟩
    refine wl_op rfl (op_assign rfl rfl ?_)
    refine (wl_done (then_norm ?_))
    refine WC.sub [(0, .slice A n c), (4, .int .i64 (leastI k)), (5, .int .i64 (i7 : Int))] ⟨rfl, rfl, rfl, trivial⟩ ?_
    refine wc_ret ?_
    refine (then_ret ?_)
    have hB18 : Below w.heap.size w W16 := (below_step (below_step (Below.refl _ _) hE14) hE17)
    refine ⟨[_], ⟨rfl, trivial⟩, ⟨?_, hB18⟩⟩
    exact congrArg (Value.int .i64) (valueOf_none hp10 hp11 ha hne).symm
  · have hf : f8 = true := by simpa using hc15
    obtain ⟨xf, hxf, hkf⟩ := hp12.1 hf
    have hlt := (List.getElem?_eq_some_iff.1 hxf).1
    refine wc_skip ?_
    refine (then_norm ?_)
    refine wc_seq ?_
    refine wc_region ?_
    refine wl_op rfl (op_move rfl rfl ?_)
    refine wl_op rfl (op_move rfl rfl ?_)
    obtain ⟨x_s_i7, hx_s_i7⟩ : ∃ x, s[i7]? = some x := ⟨_, List.getElem?_eq_getElem (by have := hs.len; omega)⟩
    refine wl_op rfl (op_indexAddr (j := i7) rfl rfl und22 sz46 (hA3 (by omega)) rfl (by omega) rfl ?_)
    refine wl_op rfl (op_fieldAddr rfl fa46_1 rfl ?_)
    have hB19 : Below w.heap.size w W13 := (below_step (Below.refl _ _) hE14)
    refine wl_op rfl (op_load1 (v := .int .i64 x_s_i7.val) rfl agg3 (((hc4 i7 x_s_i7 hx_s_i7).ext hB19).at (i := 1) rfl) rfl ?_)
    refine wl_op rfl (op_assign rfl rfl ?_)
    refine (wl_done (then_norm ?_))
    refine WC.sub [(4, .int .i64 x_s_i7.val)] ⟨rfl, trivial⟩ ?_
    refine wc_ret ?_
    refine ⟨[_], ⟨rfl, trivial⟩, ⟨?_, hB19⟩⟩
    rw [hxf] at hx_s_i7
    cases hx_s_i7
    exact congrArg (Value.int .i64) (valueOf_some ha hxf hkf).symm

end Go.Eng
