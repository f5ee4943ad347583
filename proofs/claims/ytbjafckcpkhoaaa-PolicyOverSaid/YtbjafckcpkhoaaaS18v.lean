/- Lemmas for a law of the seat: what functions of the program do, each stated as a contract of its own (module S18v). -/
import Derived.Test.YtbjafckcpkhoaaaS18u
import Derived.Test.YtbjafckcpkhoaaaEngF
import Derived.Test.YtbjafckcpkhoaaaEngH
import Derived.Test.YtbjafckcpkhoaaaChecked
set_option linter.unusedVariables false
set_option maxRecDepth 100000
namespace Go.Eng
open Go.RowKit Go.Shelf Go.Proofs Pol



def rEffR (l : List (List Pol)) : List Pol := if allV l = true then gath l.flatten else []
theorem flat_succ {l : List (List Pol)} {k : Nat} {s : List Pol} (h : l[k]? = some s) : (l.take (k + 1)).flatten = (l.take k).flatten ++ s := by
  obtain ⟨hk, rfl⟩ := List.getElem?_eq_some_iff.1 h
  rw [List.take_succ_eq_append_getElem hk, List.flatten_append]; simp
def rSameR (a b : List Pol) : Bool := if validSet a = true ∧ validSet b = true then (List.range 13).all (fun i : Nat => decide (valueOf a ((i : Int) + 1) = valueOf b ((i : Int) + 1))) else false
theorem rsame_no {a b : List Pol} (hv : validSet a = true ∧ validSet b = true) {k : Nat} (hk : k < 13) (h : ¬ valueOf a ((k : Int) + 1) = valueOf b ((k : Int) + 1)) : rSameR a b = false := by
  rw [rSameR, if_pos hv, Bool.eq_false_iff]; intro ha
  have := List.all_eq_true.1 ha k (List.mem_range.2 hk)
  simp at this; exact h this
theorem rsame_yes {a b : List Pol} (hv : validSet a = true ∧ validSet b = true) (h : ∀ k : Nat, k < 13 → valueOf a ((k : Int) + 1) = valueOf b ((k : Int) + 1)) : rSameR a b = true := by
  rw [rSameR, if_pos hv, List.all_eq_true]; intro i hi
  exact decide_eq_true (h i (List.mem_range.1 hi))

theorem rEffective_spec {w : World} {A : Option Addr} {n c : Nat} {l : List (List Pol)} (hs : RdL w A n l) (hn : n ≤ 100) : Ret Try.prog 18 #[.slice A n c] w (fun v w' => ∃ (A1 : Option Addr) (n1 c1 : Nat), v = .tuple #[.slice A1 n1 c1, .int .i64 (effE l)] ∧ RdP w' A1 n1 (rEffR l) ∧ n1 ≤ c1 ∧ Below w.heap.size w w') := by
  obtain ⟨bs1, os2, hA3, hc4⟩ := hs.rows
  have hln5 := hs.len
  have hbd6 := hs.bd
  have hlen_l := hs.len
  refine ret_of (args := [.slice A n c]) Try.func18 rfl Try.ntmps18 rfl (rs := [.tmp 2, .tmp 3]) rfl ?_
  refine wc_seq ?_
  refine wc_region ?_
  refine wl_op rfl (op_assign rfl rfl ?_)
  refine wl_op rfl (op_assign rfl rfl ?_)
  refine (wl_done (then_norm ?_))
  refine wc_seq ?_
  refine wc_region ?_
  refine wl_op rfl (op_assign rfl rfl ?_)
  refine (wl_done (then_norm ?_))
  refine wc_seq ?_
  refine wc_seq ?_
  refine wc_region ?_
  refine wl_op rfl (op_move rfl rfl ?_)
  refine wl_op rfl (op_len_slice rfl rfl und33 rfl rfl ?_)
  refine wl_op rfl (op_move rfl rfl ?_)
  refine (wl_done (then_norm ?_))
  refine wc_block ?_
  refine wc_loop (σ := Nat × Value × World) (fun st_ => [(0, .slice A n c), (2, .slice none 0 0), (3, .int .i64 0), (4, st_.2.1), (7, .slice A n c), (8, .int .i64 ((n : Nat) : Int)), (9, .int .i64 (st_.1 : Int))]) (fun st_ => st_.2.2) (fun st_ => (st_.1 ≤ n) ∧ (Own encP w.heap.size 46 2 st_.2.2 st_.2.1 ((l.take st_.1).flatten)) ∧ (((l.take st_.1).flatten).length ≤ 200 * st_.1) ∧ (∀ (i : Nat) (x : List Pol), i < st_.1 → l[i]? = some x → validSet x = true) ∧ (Below w.heap.size w st_.2.2)) (fun st_ => n - st_.1) (0, (.slice none 0 0), w) ⟨(by first | omega | (dsimp only; omega)), (own_nil _ _ _ _ _), (by simp), (fun i x hi => absurd hi (by omega)), (Below.refl _ _)⟩ ⟨rfl, rfl, rfl, rfl, rfl, rfl, rfl, trivial⟩ rfl ?_
  rintro ⟨k, v, W7⟩ ⟨hk, hown, hlk, hall, hE8⟩
  dsimp only at hk hown hlk hall hE8
  refine wc_at [(0, .slice A n c), (2, .slice none 0 0), (3, .int .i64 0), (4, v), (7, .slice A n c), (8, .int .i64 ((n : Nat) : Int)), (9, .int .i64 (k : Int))] W7 ⟨rfl, rfl, rfl, rfl, rfl, rfl, rfl, trivial⟩ rfl ?_
  refine wc_seq ?_
  refine wc_region ?_
  refine wl_op rfl (op_lss rfl rfl rfl ?_)
  refine (wl_done (then_norm ?_))
  refine wc_seq ?_
  refine wc_cond (b := decide ((k : Int) < ((n : Nat) : Int))) rfl (fun hc9 => ?_) (fun hc9 => ?_)
  · have hc9r := hc9
    have hc9 := of_decide_eq_true hc9
    refine wc_skip ?_
    refine (then_norm ?_)
    refine wc_seq ?_
    refine wc_block ?_
    refine wc_seq ?_
    refine wc_region ?_
    obtain ⟨x_l_k, hx_l_k⟩ : ∃ x, l[k]? = some x := ⟨_, List.getElem?_eq_getElem (by have := hs.len; omega)⟩
    obtain ⟨cs10, hcl11, hR12, hC13⟩ := hc4 k x_l_k hx_l_k
    obtain ⟨A14, n15, c16, rfl, hr17, hnc18, hn219⟩ := hR12
    refine wl_op rfl (op_indexAddr (j := k) rfl rfl und33 sz22 (hA3 (by omega)) rfl (by omega) rfl ?_)
    have hB20 : Below w.heap.size w W7 := (below_step (Below.refl _ _) hE8)
    refine wl_op rfl (op_load1 (v := .slice A14 n15 c16) rfl agg22 ((hC13.ext hB20).at (i := 0) rfl) rfl ?_)
    refine wl_op rfl (op_assign rfl rfl ?_)
    refine (wl_done (then_norm ?_))
    refine wc_seq ?_
    refine wc_seq ?_
    refine wc_region ?_
    refine wl_op rfl (op_move rfl rfl ?_)
    refine wl_op rfl (op_call ent28 rfl (rValidSet_spec (hr17.ext (flat_lifts _) hB20)) rfl ?_)
    rintro _ W21 ⟨rfl, hE22⟩
    refine wl_op rfl (op_not rfl rfl ?_)
    refine (wl_done (then_norm ?_))
    refine wc_cond (b := !(validSet x_l_k)) rfl (fun hc23 => ?_) (fun hc23 => ?_)
    · have hxv : validSet x_l_k = false := by simpa using hc23
      refine wc_seq ?_
      refine wc_region ?_
      refine wl_op rfl (op_assign rfl rfl ?_)
      refine wl_op rfl (op_assign rfl rfl ?_)
      refine (wl_done (then_norm ?_))
      refine wc_ret ?_
      refine (then_ret (block_ret (then_ret (then_ret (block_ret (then_ret ?_))))))
      have hB24 : Below w.heap.size w W21 := (below_step hB20 hE22)
      have hav := allV_bad hx_l_k hxv
      refine ⟨[_, _], ⟨rfl, rfl, trivial⟩, ⟨none, 0, 0, ?_, (by rw [rEffR, if_neg (by rw [hav]; decide)]; exact rd_nil _ _ _), (Nat.le_refl _), hB24⟩⟩
      rw [effE, if_neg (by rw [hav]; decide)]
      rfl
    · have hvx : validSet x_l_k = true := by simpa using hc23
      have hlx := hr17.len
      refine wc_skip ?_
      refine (then_norm ?_)
      refine wc_region ?_
      refine wl_op rfl (op_move rfl rfl ?_)
      refine wl_op rfl (op_move rfl rfl ?_)
      have hB25 : Below w.heap.size w W21 := (below_step hB20 hE22)
      refine wl_op rfl (op_appendS (enc := encP) rfl rfl app22 rfl rfl (Own.ext hown hE22) (hr17.ext (flat_lifts _) hB25) (fun _ => rfl) (fun _ => rfl) (by omega) (by omega) hB25.size rfl ?_)
      intro v26 W27 ho28 hg29 hob30
      refine wl_op rfl (op_assign rfl rfl ?_)
      refine (wl_done (block_norm (then_norm ?_)))
      refine wc_region ?_
      refine wl_op rfl (op_add (r := ((k + 1 : Nat) : Int)) rfl rfl (by omega) (by omega) rfl ?_)
      refine wl_op rfl (op_move rfl rfl ?_)
      refine (wl_done (then_norm ?_))
      have hB31 : Below w.heap.size w W27 := (below_grown hB25 (Own.ext hown hE22) hg29 (Nat.le_refl _))
      refine ⟨((k + 1), v26, W27), ⟨(by first | omega | (dsimp only; omega)), (by dsimp only; rw [flat_succ hx_l_k]; exact ho28), (by dsimp only; rw [flat_succ hx_l_k, List.length_append]; have := hlx; omega), (fun i x hi hx => by rcases Nat.lt_or_ge i k with h | h; exact hall i x h hx; have e : i = k := (by dsimp only at hi; omega); subst e; rw [hx_l_k] at hx; cases hx; exact hvx), hB31⟩, ?_, ⟨rfl, rfl, rfl, rfl, rfl, rfl, rfl, trivial⟩, rfl⟩
      · dsimp only; omega
  · have hc9r := hc9
    have hc9 := of_decide_eq_false hc9
    refine wc_exit ?_
    refine (then_exit (then_exit (block_here (then_norm ?_))))
    refine wc_seq ?_
    refine wc_seq ?_
    refine wc_region ?_
    refine wl_op rfl (op_move rfl rfl ?_)
    refine wl_op rfl (op_len_slice rfl rfl und33 rfl rfl ?_)
    refine wl_op rfl (op_gtr rfl rfl rfl ?_)
    refine (wl_done (then_norm ?_))
    refine WC.sub [(2, .slice none 0 0), (3, .int .i64 0), (4, v), (22, .bool (decide (100 < ((n : Nat) : Int))))] ⟨rfl, rfl, rfl, rfl, trivial⟩ ?_
    refine wc_cond (b := decide (100 < ((n : Nat) : Int))) rfl (fun hc32 => ?_) (fun hc32 => ?_)
    · have hc32r := hc32
      have hc32 := of_decide_eq_true hc32
      omega
    · have hc32r := hc32
      have hc32 := of_decide_eq_false hc32
      refine wc_skip ?_
      refine (then_norm ?_)
      refine wc_seq ?_
      refine wc_region ?_
      refine wl_op rfl (op_move rfl rfl ?_)
      obtain ⟨A33, n34, c35, hv36, hr37, hn38, hnc39⟩ := rd_of_OwnC hown (fun _ => rfl) (by omega)
      subst hv36
      refine wl_op rfl (op_call ent55 rfl (gathered_spec hr37) rfl ?_)
      rintro _ W45 ⟨A140, n141, c142, rfl, hp43, hp44, hE46⟩
      have hkn : l.take k = l := List.take_of_length_le (by omega)
      rw [hkn] at hp43
      refine wl_op rfl (op_assign rfl rfl ?_)
      refine wl_op rfl (op_assign rfl rfl ?_)
      refine (wl_done (then_norm ?_))
      refine wc_ret ?_
      have hB47 : Below w.heap.size w W45 := (below_step (below_step (Below.refl _ _) hE8) hE46)
      have hav : allV l = true := all_yes (f := validSet) fun i x hi => hall i x (by omega)
      refine ⟨[_, _], ⟨rfl, rfl, trivial⟩, ⟨A140, n141, c142, ?_, (by rw [rEffR, if_pos hav]; exact hp43), hp44, hB47⟩⟩
      rw [effE, if_pos hav]
      rfl

theorem rSame_spec {w : World} {A : Option Addr} {n c : Nat} {a : List Pol} {A2 : Option Addr} {n2 c2 : Nat} {b : List Pol} (hs : RdP w A n a) (hs2 : RdP w A2 n2 b) : Ret Try.prog 20 #[.slice A n c, .slice A2 n2 c2] w (fun v w' => v = .tuple #[.bool (rSameR a b), .int .i64 (overE a b)] ∧ Below w.heap.size w w') := by
  obtain ⟨bs1, os2, hA3, hc4⟩ := hs.flat
  have hln5 := hs.len
  have hbd6 := hs.bd
  have hlen_a := hs.len
  obtain ⟨bs7, os8, hA9, hc10⟩ := hs2.flat
  have hln11 := hs2.len
  have hbd12 := hs2.bd
  have hlen_b := hs2.len
  refine ret_of (args := [.slice A n c, .slice A2 n2 c2]) Try.func20 rfl Try.ntmps20 rfl (rs := [.tmp 4, .tmp 5]) rfl ?_
  refine wc_seq ?_
  refine wc_region ?_
  refine wl_op rfl (op_assign rfl rfl ?_)
  refine wl_op rfl (op_assign rfl rfl ?_)
  refine (wl_done (then_norm ?_))
  refine wc_seq ?_
  refine wc_seq ?_
  refine wc_text [(0, .slice A n c), (1, .slice A2 n2 c2), (4, .bool false), (5, .int .i64 0)] ⟨rfl, rfl, rfl, rfl, trivial⟩ [fun v _ => v = .slice A n c, fun v _ => v = .bool (validSet a), fun v _ => v = .bool (!(validSet a)), fun v _ => v = .bool (!(validSet a)), fun v _ => v = (bif (!(!(validSet a))) then (.slice A2 n2 c2) else undef), fun v _ => v = (bif (!(!(validSet a))) then (.bool (validSet b)) else undef), fun v _ => v = (bif (!(!(validSet a))) then (.bool (!(validSet b))) else undef), fun v _ => v = .bool ((!(validSet a)) || (!(validSet b)))] [[], [0], [1], [2], [3], [3, 4], [3, 5], [3, 6]] [7] rfl rfl rfl ⟨fun _ _ _ _ h => h, fun _ _ _ _ h => h, fun _ _ _ _ h => h, fun _ _ _ _ h => h, fun _ _ _ _ h => h, fun _ _ _ _ h => h, fun _ _ _ _ h => h, fun _ _ _ _ h => h, trivial⟩ ⟨?_, ?_, ?_, ?_, ?_, ?_, ?_, ?_, trivial⟩ ?_
  · intro W13 hW14
    refine gather_nil ?_
    refine opg_none rfl ?_
    exact op_move rfl rfl ⟨told rfl rfl rfl, (Below.refl _ _)⟩
  · intro W13 hW14
    rintro _ rfl
    refine gather_nil ?_
    refine opg_none rfl ?_
    have hB17 : Below w.heap.size w W13 := (below_step (Below.refl _ _) hW14)
    refine op_call ent28 rfl (rValidSet_spec (hs.ext (flat_lifts _) hB17)) rfl ?_
    rintro _ W18 ⟨rfl, hE19⟩
    exact ⟨told rfl rfl rfl, hE19⟩
  · intro W13 hW14
    rintro _ rfl
    refine gather_nil ?_
    refine opg_none rfl ?_
    exact op_not rfl rfl ⟨told rfl rfl rfl, (Below.refl _ _)⟩
  · intro W13 hW14
    rintro _ rfl
    refine gather_nil ?_
    refine opg_none rfl ?_
    exact op_move rfl rfl ⟨told rfl rfl rfl, (Below.refl _ _)⟩
  · intro W13 hW14
    rintro _ rfl
    refine gather_nil ?_
    refine opg_f1 rfl rfl (fun hg20 => ?_) (fun h => by rw [h, cond_false])
    exact op_move rfl rfl ⟨told rfl rfl (by rw [hg20, cond_true]), (Below.refl _ _)⟩
  · intro W13 hW14
    rintro _ rfl
    intro v21 (hv22 : v21 = bif (!(!(validSet a))) then (.slice A2 n2 c2) else undef)
    refine gather_nil ?_
    refine opg_f1 rfl rfl (fun hg23 => ?_) (fun h => by rw [h, cond_false])
    obtain rfl : v21 = .slice A2 n2 c2 := by rw [hv22, hg23, cond_true]
    have hB24 : Below w.heap.size w W13 := (below_step (Below.refl _ _) hW14)
    refine op_call ent28 rfl (rValidSet_spec (hs2.ext (flat_lifts _) hB24)) rfl ?_
    rintro _ W25 ⟨rfl, hE26⟩
    exact ⟨told rfl rfl (by rw [hg23, cond_true]), hE26⟩
  · intro W13 hW14
    rintro _ rfl
    intro v27 (hv28 : v27 = bif (!(!(validSet a))) then (.bool (validSet b)) else undef)
    refine gather_nil ?_
    refine opg_f1 rfl rfl (fun hg29 => ?_) (fun h => by rw [h, cond_false])
    obtain rfl : v27 = .bool (validSet b) := by rw [hv28, hg29, cond_true]
    exact op_not rfl rfl ⟨told rfl rfl (by rw [hg29, cond_true]), (Below.refl _ _)⟩
  · intro W13 hW14
    rintro _ rfl
    intro v30 (hv31 : v30 = bif (!(!(validSet a))) then (.bool (!(validSet b))) else undef)
    refine gather_nil ?_
    refine opg_none rfl ?_
    exact op_or rfl rfl rfl (fun h => by rw [hv31, (not_i h), cond_true]) rfl ⟨told rfl rfl rfl, (Below.refl _ _)⟩
  intro W32 hW33
  rintro _ rfl
  refine gather_nil ?_
  refine (then_norm ?_)
  refine wc_cond (b := (!(validSet a)) || (!(validSet b))) rfl (fun hc34 => ?_) (fun hc34 => ?_)
  · have hinv : ¬ (validSet a = true ∧ validSet b = true) := by intro h; rw [h.1, h.2] at hc34; cases hc34
    refine wc_seq ?_
    refine wc_region ?_
    refine wl_op rfl (op_assign rfl rfl ?_)
    refine wl_op rfl (op_assign rfl rfl ?_)
    refine (wl_done (then_norm ?_))
    refine wc_ret ?_
    refine (then_ret ?_)
    have hB35 : Below w.heap.size w W32 := (below_step (Below.refl _ _) hW33)
    refine ⟨[_, _], ⟨rfl, rfl, trivial⟩, ⟨?_, hB35⟩⟩
    rw [rSameR, overE, if_neg hinv, if_neg hinv]
    rfl
  · have hval : validSet a = true ∧ validSet b = true := by simpa using hc34
    refine wc_skip ?_
    refine (then_norm ?_)
    refine wc_seq ?_
    refine wc_seq ?_
    refine wc_region ?_
    refine wl_op rfl (op_assign rfl rfl ?_)
    refine (wl_done (then_norm ?_))
    refine wc_block ?_
    refine wc_loop (σ := Nat × World) (fun st_ => [(0, .slice A n c), (1, .slice A2 n2 c2), (4, .bool false), (5, .int .i64 0), (6, .int .i64 ((st_.1 + 1 : Nat) : Int))]) (fun st_ => st_.2) (fun st_ => (st_.1 ≤ 13) ∧ (∀ i : Nat, i < st_.1 → valueOf a ((i : Int) + 1) = valueOf b ((i : Int) + 1)) ∧ (Below W32.heap.size W32 st_.2)) (fun st_ => 13 - st_.1) (0, W32) ⟨(by first | omega | (dsimp only; omega)), (fun i hi => absurd hi (by omega)), (Below.refl _ _)⟩ ⟨rfl, rfl, rfl, rfl, rfl, trivial⟩ rfl ?_
    rintro ⟨k, W36⟩ ⟨hk, hall, hE37⟩
    dsimp only at hk hall hE37
    refine wc_at [(0, .slice A n c), (1, .slice A2 n2 c2), (4, .bool false), (5, .int .i64 0), (6, .int .i64 ((k + 1 : Nat) : Int))] W36 ⟨rfl, rfl, rfl, rfl, rfl, trivial⟩ rfl ?_
    refine wc_seq ?_
    refine wc_seq ?_
    refine wc_region ?_
    refine wl_op rfl (op_move rfl rfl ?_)
    refine wl_op rfl (op_leq rfl rfl rfl ?_)
    refine (wl_done (then_norm ?_))
    refine wc_cond (b := decide (((k + 1 : Nat) : Int) ≤ 13)) rfl (fun hc38 => ?_) (fun hc38 => ?_)
    · have hc38r := hc38
      have hc38 := of_decide_eq_true hc38
      refine wc_skip ?_
      refine (then_norm ?_)
      refine wc_seq ?_
      refine wc_block ?_
      refine wc_seq ?_
      refine wc_region ?_
      refine wl_op rfl (op_move rfl rfl ?_)
      refine wl_op rfl (op_move rfl rfl ?_)
      have hB39 : Below w.heap.size w W36 := (below_step (below_step (Below.refl _ _) hW33) hE37)
      refine wl_op rfl (op_call ent48 rfl (rvalue_spec (hs.ext (flat_lifts _) hB39)) rfl ?_)
      rintro _ W40 ⟨rfl, hE41⟩
      refine wl_op rfl (op_move rfl rfl ?_)
      refine wl_op rfl (op_move rfl rfl ?_)
      have hB42 : Below w.heap.size w W40 := (below_step hB39 hE41)
      refine wl_op rfl (op_call ent48 rfl (rvalue_spec (hs2.ext (flat_lifts _) hB42)) rfl ?_)
      rintro _ W43 ⟨rfl, hE44⟩
      refine wl_op rfl (op_neq rfl rfl rfl ?_)
      refine (wl_done (then_norm ?_))
      refine wc_cond (b := !decide (valueOf a ((k + 1 : Nat) : Int) = valueOf b ((k + 1 : Nat) : Int))) rfl (fun hc45 => ?_) (fun hc45 => ?_)
      · have hc45r := hc45
        have hc45 := of_decide_eq_false (not_t hc45)
        have hne : ¬ valueOf a ((k : Int) + 1) = valueOf b ((k : Int) + 1) := by have := hc45; push_cast at this; exact this
        refine wc_seq ?_
        refine wc_region ?_
        refine wl_op rfl (op_assign rfl rfl ?_)
        refine wl_op rfl (op_assign rfl rfl ?_)
        refine (wl_done (then_norm ?_))
        refine wc_ret ?_
        refine (block_ret (then_ret (then_ret (block_ret (then_ret ?_)))))
        have hB46 : Below w.heap.size w W43 := (below_step hB42 hE44)
        refine ⟨[_, _], ⟨rfl, rfl, trivial⟩, ⟨?_, hB46⟩⟩
        rw [rsame_no hval (by omega) hne, overE, if_pos hval]
        rfl
      · have hc45r := hc45
        have hc45 := of_decide_eq_true (not_f hc45)
        refine wc_skip ?_
        refine (block_norm (then_norm ?_))
        refine wc_region ?_
        refine wl_op rfl (op_move rfl rfl ?_)
        refine wl_op rfl (op_add (r := ((k + 1 + 1 : Nat) : Int)) rfl rfl (by omega) (by omega) rfl ?_)
        refine wl_op rfl (op_assign rfl rfl ?_)
        refine (wl_done (then_norm ?_))
        have hB47 : Below W32.heap.size W32 W43 := (below_step (below_step (below_step (Below.refl _ _) hE37) hE41) hE44)
        refine ⟨((k + 1), W43), ⟨(by first | omega | (dsimp only; omega)), (all_succ hall (by have := hc45; push_cast at this; exact this)), hB47⟩, ?_, ⟨rfl, rfl, rfl, rfl, rfl, trivial⟩, rfl⟩
        · dsimp only; omega
    · have hc38r := hc38
      have hc38 := of_decide_eq_false hc38
      refine wc_exit ?_
      refine (then_exit (then_exit (block_here (then_norm ?_))))
      refine wc_seq ?_
      refine wc_region ?_
      refine wl_op rfl (op_assign rfl rfl ?_)
      refine wl_op rfl (op_assign rfl rfl ?_)
      refine (wl_done (then_norm ?_))
      refine wc_ret ?_
      have hB48 : Below w.heap.size w W36 := (below_step (below_step (Below.refl _ _) hW33) hE37)
      refine ⟨[_, _], ⟨rfl, rfl, trivial⟩, ⟨?_, hB48⟩⟩
      rw [rsame_yes hval (fun i hi => hall i (by omega)), overE, if_pos hval]
      rfl

end Go.Eng
