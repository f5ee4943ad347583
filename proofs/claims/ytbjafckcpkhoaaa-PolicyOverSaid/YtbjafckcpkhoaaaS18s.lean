/- Lemmas for a law of the seat: what functions of the program do, each stated as a contract of its own (module S18s). -/
import Derived.Test.YtbjafckcpkhoaaaS18r
import Derived.Test.YtbjafckcpkhoaaaEngF
import Derived.Test.YtbjafckcpkhoaaaEngH
import Derived.Test.YtbjafckcpkhoaaaChecked
set_option linter.unusedVariables false
set_option maxRecDepth 100000
namespace Go.Eng
open Go.RowKit Go.Shelf Go.Proofs Pol

theorem ent15 : Enters Try.prog 15 := enters_of Try.func15 (by kernel_rfl) rfl

abbrev srt (s : List Pol) : Prop := s.Pairwise (fun x y => x.kind < y.kind)
theorem srt_cons {x : Pol} {xs : List Pol} : srt (x :: xs) ↔ (∀ y, y ∈ xs → x.kind < y.kind) ∧ srt xs := List.pairwise_cons
theorem srt_of_asc {s : List Pol} (h : Asc s) : srt s := by
  rw [srt, List.pairwise_iff_getElem]
  intro i j hi hj hij
  exact h.up i j _ _ hij (List.getElem?_eq_getElem hi) (List.getElem?_eq_getElem hj)
theorem asc_of_srt {s : List Pol} (h : srt s) (hv : ∀ p, p ∈ s → validB p = true) : Asc s := by
  rw [srt, List.pairwise_iff_getElem] at h
  refine ⟨fun i x hx => (valid_kind (hv x (List.mem_of_getElem? hx))), fun i j x y hij hx hy => ?_⟩
  obtain ⟨hi, rfl⟩ := List.getElem?_eq_some_iff.1 hx
  obtain ⟨hj, rfl⟩ := List.getElem?_eq_some_iff.1 hy
  exact h i j hi hj hij
theorem valid_iff {s : List Pol} : validSet s = true ↔ srt s ∧ ∀ p, p ∈ s → validB p = true :=
  ⟨fun h => ⟨srt_of_asc (valid_asc h), fun p hp => mem_valid h hp⟩, fun ⟨h1, h2⟩ => valid_of (asc_of_srt h1 h2) h2⟩
theorem overL_mem {a b : List Pol} : ∀ z, z ∈ overL a b → z ∈ a ∨ z ∈ b := by
  fun_induction overL a b with
  | case1 ys => intro z h; exact .inr h
  | case2 x xs ih =>
    intro z h
    rcases List.mem_cons.1 h with rfl | h
    · exact .inl (by simp)
    · exact (ih z h).imp (fun h => by simp [h]) id
  | case3 x xs y ys h1 ih =>
    intro z h
    rcases List.mem_cons.1 h with rfl | h
    · exact .inl (by simp)
    · exact (ih z h).imp (fun h => by simp [h]) id
  | case4 x xs y ys h1 h2 ih =>
    intro z h
    rcases List.mem_cons.1 h with rfl | h
    · exact .inr (by simp)
    · exact (ih z h).imp (fun h => by simp [h]) (fun h => by simp [h])
  | case5 x xs y ys h1 h2 ih =>
    intro z h
    rcases List.mem_cons.1 h with rfl | h
    · exact .inr (by simp)
    · exact (ih z h).imp id (fun h => by simp [h])
theorem overL_srt {a b : List Pol} : srt a → srt b → srt (overL a b) := by
  fun_induction overL a b with
  | case1 ys => intro _ h; exact h
  | case2 x xs ih =>
    intro h1 h2
    rw [srt_cons] at h1
    rw [srt_cons]
    refine ⟨fun z hz => ?_, ih h1.2 h2⟩
    rcases overL_mem z hz with h | h
    · exact h1.1 z h
    · cases h
  | case3 x xs y ys h3 ih =>
    intro h1 h2
    have h2' := h2
    rw [srt_cons] at h1 h2
    rw [srt_cons]
    refine ⟨fun z hz => ?_, ih h1.2 h2'⟩
    rcases overL_mem z hz with h | h
    · exact h1.1 z h
    · rcases List.mem_cons.1 h with rfl | h
      · exact h3
      · have := h2.1 z h; omega
  | case4 x xs y ys h3 h4 ih =>
    intro h1 h2
    rw [srt_cons] at h1 h2
    rw [srt_cons]
    refine ⟨fun z hz => ?_, ih h1.2 h2.2⟩
    rcases overL_mem z hz with h | h
    · have := h1.1 z h; omega
    · exact h2.1 z h
  | case5 x xs y ys h3 h4 ih =>
    intro h1 h2
    have h1' := h1
    rw [srt_cons] at h1 h2
    rw [srt_cons]
    refine ⟨fun z hz => ?_, ih h1' h2.2⟩
    rcases overL_mem z hz with h | h
    · rcases List.mem_cons.1 h with rfl | h
      · omega
      · have := h1.1 z h; omega
    · exact h2.1 z h
theorem overL_valid {a b : List Pol} (ha : validSet a = true) (hb : validSet b = true) : validSet (overL a b) = true := by
  rw [valid_iff] at *
  exact ⟨overL_srt ha.1 hb.1, fun p hp => (overL_mem p hp).elim (ha.2 p) (hb.2 p)⟩
theorem srt_len {s : List Pol} : ∀ {lo : Int}, srt s → (∀ p, p ∈ s → lo ≤ p.kind ∧ p.kind ≤ 13) → lo ≤ 14 → (s.length : Int) ≤ 14 - lo := by
  induction s with
  | nil => intro lo _ _ h; simp; omega
  | cons x xs ih =>
    intro lo h1 h2 h3
    rw [srt_cons] at h1
    have hx := h2 x (by simp)
    have := ih (lo := x.kind + 1) h1.2 (fun p hp => ⟨by have := h1.1 p hp; omega, (h2 p (by simp [hp])).2⟩) (by omega)
    simp only [List.length_cons]; omega
theorem valid_len {s : List Pol} (h : validSet s = true) : s.length ≤ 13 := by
  rw [valid_iff] at h
  have := srt_len (lo := 1) h.1 (fun p hp => valid_kind (h.2 p hp)) (by decide)
  omega
theorem effL_succ {l : List (List Pol)} {k : Nat} {s : List Pol} (h : l[k]? = some s) : effL (l.take (k + 1)) = overL (effL (l.take k)) s := by
  obtain ⟨hk, rfl⟩ := List.getElem?_eq_some_iff.1 h
  rw [List.take_succ_eq_append_getElem hk, effL, List.foldl_append]; rfl
theorem valid_nil : validSet [] = true := rfl
theorem allV_bad {l : List (List Pol)} {k : Nat} {s : List Pol} (h : l[k]? = some s) (hs : validSet s = false) : allV l = false := all_no (f := validSet) h hs
theorem over_step {out s : List Pol} (h : validSet out = true) (hs : validSet s = true) : overR out s = overL out s ∧ overE out s = 0 ∧ validSet (overL out s) = true := ⟨if_pos ⟨h, hs⟩, if_pos ⟨h, hs⟩, overL_valid h hs⟩
theorem overE_0 {a b : List Pol} : overE a b = 0 ↔ validSet a = true ∧ validSet b = true := by
  unfold overE; split <;> simp_all
theorem overE_1 {a b : List Pol} (h : ¬ overE a b = 0) : overE a b = 1 ∧ ¬ (validSet a = true ∧ validSet b = true) := by
  unfold overE at *; split at h <;> simp_all

theorem Effective_spec {w : World} {A : Option Addr} {n c : Nat} {l : List (List Pol)} (hs : RdL w A n l) (hn : n ≤ 100) : Ret Try.prog 17 #[.slice A n c] w (fun v w' => ∃ (A1 : Option Addr) (n1 c1 : Nat), v = .tuple #[.slice A1 n1 c1, .int .i64 (effE l)] ∧ RdP w' A1 n1 (effR l) ∧ n1 ≤ c1 ∧ Below w.heap.size w w') := by
  obtain ⟨bs1, os2, hA3, hc4⟩ := hs.rows
  have hln5 := hs.len
  have hbd6 := hs.bd
  have hlen_l := hs.len
  refine ret_of (args := [.slice A n c]) Try.func17 rfl Try.ntmps17 rfl (rs := [.tmp 2, .tmp 3]) rfl ?_
  refine wc_seq ?_
  refine wc_region ?_
  refine wl_op rfl (op_assign rfl rfl ?_)
  refine wl_op rfl (op_assign rfl rfl ?_)
  refine (wl_done (then_norm ?_))
  refine wc_seq ?_
  refine wc_seq ?_
  refine wc_region ?_
  refine wl_op rfl (op_move rfl rfl ?_)
  refine wl_op rfl (op_len_slice rfl rfl und33 rfl rfl ?_)
  refine wl_op rfl (op_gtr rfl rfl rfl ?_)
  refine (wl_done (then_norm ?_))
  refine wc_cond (b := decide (100 < ((n : Nat) : Int))) rfl (fun hc7 => ?_) (fun hc7 => ?_)
  · have hc7r := hc7
    have hc7 := of_decide_eq_true hc7
    omega
  · have hc7r := hc7
    have hc7 := of_decide_eq_false hc7
    refine wc_skip ?_
    refine (then_norm ?_)
    refine wc_seq ?_
    refine wc_region ?_
    refine wl_op rfl (op_assign rfl rfl ?_)
    refine (wl_done (then_norm ?_))
    refine wc_seq ?_
    refine wc_seq ?_
    refine wc_region ?_
    refine wl_op rfl (op_move rfl rfl ?_)
    refine wl_op rfl (op_len_slice rfl rfl und33 rfl rfl ?_)
    refine wl_op rfl (op_move rfl rfl ?_)
    refine (wl_done (then_norm ?_))
    refine wc_block ?_
    refine wc_loop (σ := Nat × (Option Addr) × Nat × Nat × World) (fun st_ => [(2, .slice none 0 0), (3, .int .i64 0), (4, .slice st_.2.1 st_.2.2.1 st_.2.2.2.1), (12, .slice A n c), (13, .int .i64 ((n : Nat) : Int)), (14, .int .i64 (st_.1 : Int))]) (fun st_ => st_.2.2.2.2) (fun st_ => (st_.1 ≤ n) ∧ (RdP st_.2.2.2.2 st_.2.1 st_.2.2.1 (effL (l.take st_.1))) ∧ (st_.2.2.1 ≤ st_.2.2.2.1) ∧ (validSet (effL (l.take st_.1)) = true) ∧ (∀ (i : Nat) (x : List Pol), i < st_.1 → l[i]? = some x → validSet x = true) ∧ (Below w.heap.size w st_.2.2.2.2)) (fun st_ => n - st_.1) (0, none, 0, 0, w) ⟨(by first | omega | (dsimp only; omega)), (rd_nil _ _ _), (Nat.le_refl _), valid_nil, (fun i x hi => absurd hi (by omega)), (Below.refl _ _)⟩ ⟨rfl, rfl, rfl, rfl, rfl, rfl, trivial⟩ rfl ?_
    rintro ⟨k, A4, n4, c4, W8⟩ ⟨hk, hout, hoc, hov, hall, hE9⟩
    dsimp only at hk hout hoc hov hall hE9
    refine wc_at [(2, .slice none 0 0), (3, .int .i64 0), (4, .slice A4 n4 c4), (12, .slice A n c), (13, .int .i64 ((n : Nat) : Int)), (14, .int .i64 (k : Int))] W8 ⟨rfl, rfl, rfl, rfl, rfl, rfl, trivial⟩ rfl ?_
    have hol := hout.len
    have hovl := valid_len hov
    refine wc_seq ?_
    refine wc_region ?_
    refine wl_op rfl (op_lss rfl rfl rfl ?_)
    refine (wl_done (then_norm ?_))
    refine wc_seq ?_
    refine wc_cond (b := decide ((k : Int) < ((n : Nat) : Int))) rfl (fun hc10 => ?_) (fun hc10 => ?_)
    · have hc10r := hc10
      have hc10 := of_decide_eq_true hc10
      refine wc_skip ?_
      refine (then_norm ?_)
      refine wc_seq ?_
      refine wc_block ?_
      refine wc_seq ?_
      refine wc_region ?_
      obtain ⟨x_l_k, hx_l_k⟩ : ∃ x, l[k]? = some x := ⟨_, List.getElem?_eq_getElem (by have := hs.len; omega)⟩
      obtain ⟨cs11, hcl12, hR13, hC14⟩ := hc4 k x_l_k hx_l_k
      obtain ⟨A15, n16, c17, rfl, hr18, hnc19, hn220⟩ := hR13
      refine wl_op rfl (op_indexAddr (j := k) rfl rfl und33 sz22 (hA3 (by omega)) rfl (by omega) rfl ?_)
      have hB21 : Below w.heap.size w W8 := (below_step (Below.refl _ _) hE9)
      refine wl_op rfl (op_load1 (v := .slice A15 n16 c17) rfl agg22 ((hC14.ext hB21).at (i := 0) rfl) rfl ?_)
      refine wl_op rfl (op_assign rfl rfl ?_)
      refine (wl_done (then_norm ?_))
      refine wc_seq ?_
      refine wc_region ?_
      refine wl_op rfl (op_move rfl rfl ?_)
      refine wl_op rfl (op_move rfl rfl ?_)
      refine wl_op rfl (op_call ent15 rfl (Over_spec hout (hr18.ext (flat_lifts _) hB21) (by omega) (by omega) (by omega) (by omega)) rfl ?_)
      rintro _ W27 ⟨A122, n123, c124, rfl, hp25, hp26, hE28⟩
      refine wl_op rfl (op_move rfl rfl ?_)
      refine wl_op rfl (op_extract (v := .slice A122 n123 c124) rfl rfl rfl ?_)
      refine wl_op rfl (op_extract (v := .int .i64 (overE (effL (l.take k)) x_l_k)) rfl rfl rfl ?_)
      refine wl_op rfl (op_assign rfl rfl ?_)
      refine wl_op rfl (op_assign rfl rfl ?_)
      refine (wl_done (then_norm ?_))
      refine wc_seq ?_
      refine wc_seq ?_
      refine wc_region ?_
      refine wl_op rfl (op_move rfl rfl ?_)
      refine wl_op rfl (op_neq rfl rfl rfl ?_)
      refine (wl_done (then_norm ?_))
      refine wc_cond (b := !decide (overE (effL (l.take k)) x_l_k = 0)) rfl (fun hc29 => ?_) (fun hc29 => ?_)
      · have hc29r := hc29
        have hc29 := of_decide_eq_false (not_t hc29)
        have hbad := overE_1 hc29
        refine wc_seq ?_
        refine wc_region ?_
        refine wl_op rfl (op_move rfl rfl ?_)
        refine wl_op rfl (op_assign rfl rfl ?_)
        refine wl_op rfl (op_assign rfl rfl ?_)
        refine (wl_done (then_norm ?_))
        refine wc_ret ?_
        refine (then_ret (block_ret (then_ret (then_ret (block_ret (then_ret ?_))))))
        have hB30 : Below w.heap.size w W27 := (below_step hB21 hE28)
        have hxv : validSet x_l_k = false := by rw [Bool.eq_false_iff]; intro h; exact hbad.2 ⟨hov, h⟩
        have hav := allV_bad hx_l_k hxv
        refine ⟨[_, _], ⟨rfl, rfl, trivial⟩, ⟨none, 0, 0, ?_, (by rw [effR, if_neg (by rw [hav]; decide)]; exact rd_nil _ _ _), (Nat.le_refl _), hB30⟩⟩
        rw [effE, if_neg (by rw [hav]; decide), hbad.1]
        rfl
      · have hc29r := hc29
        have hc29 := of_decide_eq_true (not_f hc29)
        have hvx := (overE_0.1 hc29).2
        have hst := over_step hov hvx
        rw [hst.1] at hp25
        refine wc_skip ?_
        refine (then_norm ?_)
        refine wc_region ?_
        refine wl_op rfl (op_move rfl rfl ?_)
        refine wl_op rfl (op_assign rfl rfl ?_)
        refine (wl_done (block_norm (then_norm ?_)))
        refine wc_region ?_
        refine wl_op rfl (op_add (r := ((k + 1 : Nat) : Int)) rfl rfl (by omega) (by omega) rfl ?_)
        refine wl_op rfl (op_move rfl rfl ?_)
        refine (wl_done (then_norm ?_))
        have hB31 : Below w.heap.size w W27 := (below_step hB21 hE28)
        refine ⟨((k + 1), A122, n123, c124, W27), ⟨(by first | omega | (dsimp only; omega)), (by dsimp only; rw [effL_succ hx_l_k]; exact hp25), (by first | omega | (dsimp only; omega)), (by dsimp only; rw [effL_succ hx_l_k]; exact hst.2.2), (fun i x hi hx => by rcases Nat.lt_or_ge i k with h | h; exact hall i x h hx; have e : i = k := (by dsimp only at hi; omega); subst e; rw [hx_l_k] at hx; cases hx; exact hvx), hB31⟩, ?_, ⟨rfl, rfl, rfl, rfl, rfl, rfl, trivial⟩, rfl⟩
        · dsimp only; omega
    · have hc10r := hc10
      have hc10 := of_decide_eq_false hc10
      refine wc_exit ?_
      refine (then_exit (then_exit (block_here (then_norm ?_))))
      refine wc_seq ?_
      refine wc_region ?_
      refine wl_op rfl (op_move rfl rfl ?_)
      refine wl_op rfl (op_assign rfl rfl ?_)
      refine wl_op rfl (op_assign rfl rfl ?_)
      refine (wl_done (then_norm ?_))
      refine WC.sub [(2, .slice A4 n4 c4), (3, .int .i64 0)] ⟨rfl, rfl, trivial⟩ ?_
      refine wc_ret ?_
      have hB32 : Below w.heap.size w W8 := (below_step (Below.refl _ _) hE9)
      have hkn : l.take k = l := List.take_of_length_le (by omega)
      have hav : allV l = true := all_yes (f := validSet) fun i x hi => hall i x (by omega)
      refine ⟨[_, _], ⟨rfl, rfl, trivial⟩, ⟨A4, n4, c4, ?_, (by rw [effR, if_pos hav]; have h := hout; rw [hkn] at h; exact h), hoc, hB32⟩⟩
      rw [effE, if_pos hav]
      rfl

end Go.Eng
