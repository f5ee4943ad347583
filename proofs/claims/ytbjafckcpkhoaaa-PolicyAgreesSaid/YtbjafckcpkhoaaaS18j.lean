/- Lemmas for a law of the seat: what functions of the program do, each stated as a contract of its own (module S18j). -/
import Derived.Test.YtbjafckcpkhoaaaS18i
import Derived.Test.YtbjafckcpkhoaaaChecked
set_option linter.unusedVariables false
set_option maxRecDepth 100000
namespace Go.Eng
open Go.RowKit Go.Shelf Go.Proofs Pol

theorem ent28 : Enters Try.prog 28 := enters_of Try.func28 (by kernel_rfl) rfl
theorem ent41 : Enters Try.prog 41 := enters_of Try.func41 (by kernel_rfl) rfl
theorem ent47 : Enters Try.prog 47 := enters_of Try.func47 (by kernel_rfl) rfl
theorem ent49 : Enters Try.prog 49 := enters_of Try.func49 (by kernel_rfl) rfl
theorem ent50 : Enters Try.prog 50 := enters_of Try.func50 (by kernel_rfl) rfl
theorem ent51 : Enters Try.prog 51 := enters_of Try.func51 (by kernel_rfl) rfl

theorem valid_mk {k v : Int} (h1 : isB k = true) (h2 : leastI k ≤ v) (h3 : v ≤ mostI k) : validB ⟨k, v⟩ = true := by
  have e : validB ⟨k, v⟩ = ((isB k && decide (leastI k ≤ v)) && decide (v ≤ mostI k)) := rfl
  rw [e, h1, decide_eq_true h2, decide_eq_true h3]; rfl
theorem val_rng {a : List Pol} (ha : validSet a = true) (k : Int) (h : isB k = true) : leastI k ≤ valueOf (agC a) k ∧ valueOf (agC a) k ≤ mostI k :=
  valueOf_rng (chosen_valid ha keepCalls) (isB_iff.1 h).1 (isB_iff.1 h).2
theorem agreed_valid {a b : List Pol} (ha : validSet a = true) (hb : validSet b = true) : validSet (agreed (agC a) (agC b)) = true := by
  have h8 : validB ⟨8, rebindOf (agC a) (agC b)⟩ = true := by
    have h1 := val_rng ha 8 rfl; have h2 := val_rng hb 8 rfl
    unfold rebindOf; split <;> exact valid_mk rfl (by omega) (by omega)
  have h9 : validB ⟨9, certOf (agC a) (agC b)⟩ = true := by
    have h1 := val_rng ha 9 rfl; have h2 := val_rng hb 9 rfl
    unfold certOf; split <;> exact valid_mk rfl (by omega) (by omega)
  have h10 : validB ⟨10, limitOf (agC a) (agC b)⟩ = true := by
    have h1 := val_rng ha 10 rfl; have h2 := val_rng hb 10 rfl
    unfold limitOf; split <;> exact valid_mk rfl (by omega) (by omega)
  have h11 : validB ⟨11, valueOf (agC a) 11⟩ = true := by
    have h1 := val_rng ha 11 rfl
    exact valid_mk rfl (by omega) (by omega)
  have h12 : validB ⟨12, prioOf (agC a) (agC b)⟩ = true := by
    have h1 := val_rng ha 12 rfl; have h2 := val_rng hb 12 rfl
    unfold prioOf; repeat' split
    all_goals exact valid_mk rfl (by omega) (by omega)
  have h13 : validB ⟨13, orderOf (agC a) (agC b)⟩ = true := by
    have h1 := val_rng ha 13 rfl; have h2 := val_rng hb 13 rfl
    unfold orderOf; split <;> exact valid_mk rfl (by omega) (by omega)
  rw [validSet_iff]
  intro i hi
  match i, hi with
  | 0, _ => show (validB _ && _) = true; rw [h8]; rfl
  | 1, _ => show (validB _ && _) = true; rw [h9]; rfl
  | 2, _ => show (validB _ && _) = true; rw [h10]; rfl
  | 3, _ => show (validB _ && _) = true; rw [h11]; rfl
  | 4, _ => show (validB _ && _) = true; rw [h12]; rfl
  | 5, _ => show (validB _ && _) = true; rw [h13]; rfl
  | i + 6, hi => exact absurd hi (by simp [agreed])
abbrev partF : Pol → Bool := fun p => (decide (8 ≤ p.kind)) && (decide (p.kind ≤ 13))
theorem part_calls {a : List Pol} (ha : validSet a = true) : a.filter partF = agC a := by
  unfold agC chosenL
  rw [if_pos ha]
  refine List.filter_congr fun p hp => ?_
  have := (valid_kind (mem_valid ha hp)).2
  simp [this]
theorem cert_eq {a b : List Pol} (ha : validSet a = true) (hb : validSet b = true) :
    (if strengthR 9 (valueOf (agC a) 9) < strengthR 9 (valueOf (agC b) 9) then valueOf (agC b) 9 else valueOf (agC a) 9) = certOf (agC a) (agC b) := by
  have h1 : 1 ≤ valueOf (agC a) 9 ∧ valueOf (agC a) 9 ≤ 4 := val_rng ha 9 rfl
  have h2 : 1 ≤ valueOf (agC b) 9 ∧ valueOf (agC b) 9 ≤ 4 := val_rng hb 9 rfl
  unfold certOf
  generalize valueOf (agC a) 9 = x at *
  generalize valueOf (agC b) 9 = y at *
  have hx : x = 1 ∨ x = 2 ∨ x = 3 ∨ x = 4 := by omega
  have hy : y = 1 ∨ y = 2 ∨ y = 3 ∨ y = 4 := by omega
  rcases hx with rfl | rfl | rfl | rfl <;> rcases hy with rfl | rfl | rfl | rfl <;> decide
theorem lim_rt {c s : List Pol} (h : ((decide (valueOf c 10 = 0)) || ((!decide (valueOf s 10 = 0)) && (decide (valueOf s 10 < valueOf c 10)))) = true) (h0 : 0 ≤ valueOf s 10) : valueOf s 10 = limitOf c s := by
  have h' : valueOf c 10 = 0 ∨ (¬ valueOf s 10 = 0 ∧ valueOf s 10 < valueOf c 10) := by simpa using h
  unfold limitOf
  by_cases hz : valueOf s 10 = 0
  · rw [if_neg (by omega)]; omega
  · rw [if_pos (by omega)]
theorem lim_rf {c s : List Pol} (h : ((decide (valueOf c 10 = 0)) || ((!decide (valueOf s 10 = 0)) && (decide (valueOf s 10 < valueOf c 10)))) = false) : valueOf c 10 = limitOf c s := by
  have h' : ¬ (valueOf c 10 = 0 ∨ (¬ valueOf s 10 = 0 ∧ valueOf s 10 < valueOf c 10)) := by
    intro k
    have : ((decide (valueOf c 10 = 0)) || ((!decide (valueOf s 10 = 0)) && (decide (valueOf s 10 < valueOf c 10)))) = true := by simpa using k
    rw [h] at this; cases this
  unfold limitOf
  rw [if_neg (by omega)]
theorem agree_clash_r {a b : List Pol} (hva : validSet a = true) (hvb : validSet b = true) (h : ¬ valueOf (agC b) 11 < valueOf (agC a) 11) {q : Int × Int} (hq : (clashList (agreed (agC a) (agC b)))[0]? = some q) : agree a b = ([], q.1, 9) := by
  refine agree_clash hva hvb h (q := q) ?_
  rw [clashL, if_pos (agreed_valid hva hvb)]; exact hq
theorem agree_fine_r {a b : List Pol} (hva : validSet a = true) (hvb : validSet b = true) (h : ¬ valueOf (agC b) 11 < valueOf (agC a) 11) (hq : (clashList (agreed (agC a) (agC b))).length = 0) :
    agree a b = ((agreed (agC a) (agC b)).filter keepPlain, 0, 0) := by
  rw [agree_fine hva hvb h (by rw [clashL, if_pos (agreed_valid hva hvb)]; exact hq), chosenL, if_pos (agreed_valid hva hvb), chosenE, if_pos (agreed_valid hva hvb)]

theorem rClashes_spec {w : World} {A : Option Addr} {n c : Nat} {s : List Pol} (hs : RdP w A n s) : Ret Try.prog 9 #[.slice A n c] w (fun v w' => ∃ (A1 : Option Addr) (n1 c1 : Nat), v = .tuple #[.slice A1 n1 c1, .int .i64 (chosenE s)] ∧ RdQ w' A1 n1 (clashL s) ∧ Below w.heap.size w w') := by
  obtain ⟨bs1, os2, hA3, hc4⟩ := hs.flat
  have hln5 := hs.len
  have hbd6 := hs.bd
  have hlen_s := hs.len
  refine ret_of (args := [.slice A n c]) Try.func9 rfl Try.ntmps9 rfl (rs := [.tmp 2, .tmp 3]) rfl ?_
  refine wc_seq ?_
  refine wc_region ?_
  refine wl_op rfl (op_assign rfl rfl ?_)
  refine wl_op rfl (op_assign rfl rfl ?_)
  refine (wl_done (then_norm ?_))
  refine wc_seq ?_
  refine wc_seq ?_
  refine wc_region ?_
  refine wl_op rfl (op_move rfl rfl ?_)
  refine wl_op rfl (op_call ent28 rfl (rValidSet_spec hs) rfl ?_)
  rintro _ W7 ⟨rfl, hE8⟩
  refine wl_op rfl (op_not rfl rfl ?_)
  refine (wl_done (then_norm ?_))
  refine wc_cond (b := !(validSet s)) rfl (fun hc9 => ?_) (fun hc9 => ?_)
  · have hv : validSet s = false := by simpa using hc9
    refine wc_seq ?_
    refine wc_region ?_
    refine wl_op rfl (op_assign rfl rfl ?_)
    refine wl_op rfl (op_assign rfl rfl ?_)
    refine (wl_done (then_norm ?_))
    refine wc_ret ?_
    refine (then_ret ?_)
    have hB10 : Below w.heap.size w W7 := (below_step (Below.refl _ _) hE8)
    refine ⟨[_, _], ⟨rfl, rfl, trivial⟩, ⟨none, 0, 0, ?_, (by rw [clashL, if_neg (by rw [hv]; decide)]; exact rd_nil _ _ _), hB10⟩⟩
    rw [chosenE, if_neg (by rw [hv]; decide)]
    rfl
  · have hv : validSet s = true := by simpa using hc9
    refine wc_skip ?_
    refine (then_norm ?_)
    refine wc_seq ?_
    refine wc_region ?_
    refine wl_op rfl (op_move rfl rfl ?_)
    have hB11 : Below w.heap.size w W7 := (below_step (Below.refl _ _) hE8)
    refine wl_op rfl (op_call ent41 rfl (rclashes_spec (hs.ext (flat_lifts _) hB11) (valueOf_rng (fun p hp => mem_valid hv hp) (k := 11) (by decide) (by decide)).1) rfl ?_)
    rintro _ W16 ⟨A112, n113, c114, rfl, hp15, hE17⟩
    refine wl_op rfl (op_assign rfl rfl ?_)
    refine wl_op rfl (op_assign rfl rfl ?_)
    refine (wl_done (then_norm ?_))
    refine WC.sub [(2, .slice A112 n113 c114), (3, .int .i64 0)] ⟨rfl, rfl, trivial⟩ ?_
    refine wc_ret ?_
    have hB18 : Below w.heap.size w W16 := (below_step hB11 hE17)
    refine ⟨[_, _], ⟨rfl, rfl, trivial⟩, ⟨A112, n113, c114, ?_, (by rw [clashL, if_pos hv]; exact hp15), hB18⟩⟩
    rw [chosenE, if_pos hv]
    rfl

theorem rAgree_spec {w : World} {A : Option Addr} {n c : Nat} {a : List Pol} {A2 : Option Addr} {n2 c2 : Nat} {b : List Pol} (hs : RdP w A n a) (hs2 : RdP w A2 n2 b) (hn : n ≤ 1000) (hn2 : n2 ≤ 1000) : Ret Try.prog 11 #[.slice A n c, .slice A2 n2 c2] w (fun v w' => ∃ (A1 : Option Addr) (n1 c1 : Nat), v = .tuple #[.slice A1 n1 c1, .int .i64 ((agree a b).2.1), .int .i64 ((agree a b).2.2)] ∧ RdP w' A1 n1 (agree a b).1 ∧ Below w.heap.size w w') := by
  obtain ⟨bs1, os2, hA3, hc4⟩ := hs.flat
  have hln5 := hs.len
  have hbd6 := hs.bd
  have hlen_a := hs.len
  obtain ⟨bs7, os8, hA9, hc10⟩ := hs2.flat
  have hln11 := hs2.len
  have hbd12 := hs2.bd
  have hlen_b := hs2.len
  refine ret_of (args := [.slice A n c, .slice A2 n2 c2]) Try.func11 rfl Try.ntmps11 rfl (rs := [.tmp 4, .tmp 5, .tmp 6]) rfl ?_
  refine wc_seq ?_
  refine wc_region ?_
  refine wl_op rfl (op_assign rfl rfl ?_)
  refine wl_op rfl (op_assign rfl rfl ?_)
  refine wl_op rfl (op_assign rfl rfl ?_)
  refine (wl_done (then_norm ?_))
  refine wc_seq ?_
  refine wc_seq ?_
  refine wc_text [(0, .slice A n c), (1, .slice A2 n2 c2), (4, .slice none 0 0), (5, .int .i64 0), (6, .int .i64 0)] ⟨rfl, rfl, rfl, rfl, rfl, trivial⟩ [fun v _ => v = .slice A n c, fun v _ => v = .bool (validSet a), fun v _ => v = .bool (!(validSet a)), fun v _ => v = .bool (!(validSet a)), fun v _ => v = (bif (!(!(validSet a))) then (.slice A2 n2 c2) else undef), fun v _ => v = (bif (!(!(validSet a))) then (.bool (validSet b)) else undef), fun v _ => v = (bif (!(!(validSet a))) then (.bool (!(validSet b))) else undef), fun v _ => v = .bool ((!(validSet a)) || (!(validSet b)))] [[], [0], [1], [2], [3], [3, 4], [3, 5], [3, 6]] [7] rfl rfl rfl ⟨fun _ _ _ _ h => h, fun _ _ _ _ h => h, fun _ _ _ _ h => h, fun _ _ _ _ h => h, fun _ _ _ _ h => h, fun _ _ _ _ h => h, fun _ _ _ _ h => h, fun _ _ _ _ h => h, trivial⟩ ⟨?_, ?_, ?_, ?_, ?_, ?_, ?_, ?_, trivial⟩ ?_
  · intro W13 hW14
    refine gather_nil ?_
    refine opg_none rfl ?_
    exact op_move rfl rfl ⟨⟨_, rfl, rfl⟩, (Below.refl _ _)⟩
  · intro W13 hW14
    rintro _ rfl
    refine gather_nil ?_
    refine opg_none rfl ?_
    have hB17 : Below w.heap.size w W13 := (below_step (Below.refl _ _) hW14)
    refine op_call ent28 rfl (rValidSet_spec (hs.ext (flat_lifts _) hB17)) rfl ?_
    rintro _ W18 ⟨rfl, hE19⟩
    exact ⟨⟨_, rfl, rfl⟩, hE19⟩
  · intro W13 hW14
    rintro _ rfl
    refine gather_nil ?_
    refine opg_none rfl ?_
    exact op_not rfl rfl ⟨⟨_, rfl, rfl⟩, (Below.refl _ _)⟩
  · intro W13 hW14
    rintro _ rfl
    refine gather_nil ?_
    refine opg_none rfl ?_
    exact op_move rfl rfl ⟨⟨_, rfl, rfl⟩, (Below.refl _ _)⟩
  · intro W13 hW14
    rintro _ rfl
    refine gather_nil ?_
    refine opg_f1 rfl rfl (fun hg20 => ?_) (fun h => by rw [h, cond_false])
    exact op_move rfl rfl ⟨⟨_, rfl, (by rw [hg20, cond_true])⟩, (Below.refl _ _)⟩
  · intro W13 hW14
    rintro _ rfl
    intro v21 (hv22 : v21 = bif (!(!(validSet a))) then (.slice A2 n2 c2) else undef)
    refine gather_nil ?_
    refine opg_f1 rfl rfl (fun hg23 => ?_) (fun h => by rw [h, cond_false])
    obtain rfl : v21 = .slice A2 n2 c2 := by rw [hv22, hg23, cond_true]
    have hB24 : Below w.heap.size w W13 := (below_step (Below.refl _ _) hW14)
    refine op_call ent28 rfl (rValidSet_spec (hs2.ext (flat_lifts _) hB24)) rfl ?_
    rintro _ W25 ⟨rfl, hE26⟩
    exact ⟨⟨_, rfl, (by rw [hg23, cond_true])⟩, hE26⟩
  · intro W13 hW14
    rintro _ rfl
    intro v27 (hv28 : v27 = bif (!(!(validSet a))) then (.bool (validSet b)) else undef)
    refine gather_nil ?_
    refine opg_f1 rfl rfl (fun hg29 => ?_) (fun h => by rw [h, cond_false])
    obtain rfl : v27 = .bool (validSet b) := by rw [hv28, hg29, cond_true]
    exact op_not rfl rfl ⟨⟨_, rfl, (by rw [hg29, cond_true])⟩, (Below.refl _ _)⟩
  · intro W13 hW14
    rintro _ rfl
    intro v30 (hv31 : v30 = bif (!(!(validSet a))) then (.bool (!(validSet b))) else undef)
    refine gather_nil ?_
    refine opg_none rfl ?_
    exact op_or rfl rfl rfl (fun h => by rw [hv31, (not_i h), cond_true]) rfl ⟨⟨_, rfl, rfl⟩, (Below.refl _ _)⟩
  intro W32 hW33
  rintro _ rfl
  refine gather_nil ?_
  refine (then_norm ?_)
  refine wc_cond (b := (!(validSet a)) || (!(validSet b))) rfl (fun hc34 => ?_) (fun hc34 => ?_)
  · have hinv : ¬ (validSet a = true ∧ validSet b = true) := by intro h; rw [h.1, h.2] at hc34; cases hc34
    refine wc_seq ?_
    refine wc_region ?_
    refine wl_op rfl (op_assign rfl rfl ?_)
    refine wl_op rfl (op_assign rfl rfl ?_)
    refine wl_op rfl (op_assign rfl rfl ?_)
    refine (wl_done (then_norm ?_))
    refine wc_ret ?_
    refine (then_ret ?_)
    have hB35 : Below w.heap.size w W32 := (below_step (Below.refl _ _) hW33)
    refine ⟨[_, _, _], ⟨rfl, rfl, rfl, trivial⟩, ⟨none, 0, 0, ?_, (by rw [agree, if_neg hinv]; exact rd_nil _ _ _), hB35⟩⟩
    rw [agree, if_neg hinv]
    rfl
  · have hval : validSet a = true ∧ validSet b = true := by simpa using hc34
    obtain ⟨hva, hvb⟩ := hval
    refine wc_skip ?_
    refine (then_norm ?_)
    refine wc_seq ?_
    refine wc_region ?_
    refine wl_op rfl (op_move rfl rfl ?_)
    have hB36 : Below w.heap.size w W32 := (below_step (Below.refl _ _) hW33)
    refine wl_op rfl (op_call ent47 rfl (rpart_spec (hs.ext (flat_lifts _) hB36) (by omega)) rfl ?_)
    rintro _ W41 ⟨A137, n138, c139, rfl, hp40, hE42⟩
    rw [part_calls hva] at hp40
    refine wl_op rfl (op_move rfl rfl ?_)
    have hB43 : Below w.heap.size w W41 := (below_step hB36 hE42)
    refine wl_op rfl (op_call ent47 rfl (rpart_spec (hs2.ext (flat_lifts _) hB43) (by omega)) rfl ?_)
    rintro _ W48 ⟨A144, n145, c146, rfl, hp47, hE49⟩
    rw [part_calls hvb] at hp47
    refine wl_op rfl (op_assign rfl rfl ?_)
    refine wl_op rfl (op_assign rfl rfl ?_)
    refine (wl_done (then_norm ?_))
    refine WC.sub [(4, .slice none 0 0), (5, .int .i64 0), (6, .int .i64 0), (7, .slice A137 n138 c139), (8, .slice A144 n145 c146)] ⟨rfl, rfl, rfl, rfl, rfl, trivial⟩ ?_
    refine wc_seq ?_
    refine wc_region ?_
    refine wl_op rfl (op_move rfl rfl ?_)
    have hB50 : Below W41.heap.size W41 W48 := (below_step (Below.refl _ _) hE49)
    refine wl_op rfl (op_call ent48 rfl (rvalue_spec (hp40.ext (flat_lifts _) hB50)) rfl ?_)
    rintro _ W51 ⟨rfl, hE52⟩
    refine wl_op rfl (op_assign rfl rfl ?_)
    refine (wl_done (then_norm ?_))
    refine wc_seq ?_
    refine wc_seq ?_
    refine wc_region ?_
    refine wl_op rfl (op_move rfl rfl ?_)
    refine wl_op rfl (op_move rfl rfl ?_)
    have hB53 : Below W48.heap.size W48 W51 := (below_step (Below.refl _ _) hE52)
    refine wl_op rfl (op_call ent48 rfl (rvalue_spec (hp47.ext (flat_lifts _) hB53)) rfl ?_)
    rintro _ W54 ⟨rfl, hE55⟩
    refine wl_op rfl (op_gtr rfl rfl rfl ?_)
    refine (wl_done (then_norm ?_))
    refine wc_cond (b := decide (valueOf (agC b) 11 < valueOf (agC a) 11)) rfl (fun hc56 => ?_) (fun hc56 => ?_)
    · have hc56r := hc56
      have hc56 := of_decide_eq_true hc56
      refine wc_seq ?_
      refine wc_region ?_
      refine wl_op rfl (op_assign rfl rfl ?_)
      refine wl_op rfl (op_assign rfl rfl ?_)
      refine wl_op rfl (op_assign rfl rfl ?_)
      refine (wl_done (then_norm ?_))
      refine WC.sub [(4, .slice none 0 0), (5, .int .i64 11), (6, .int .i64 9), (7, .slice A137 n138 c139), (8, .slice A144 n145 c146), (9, .int .i64 (valueOf (agC a) 11))] ⟨rfl, rfl, rfl, rfl, rfl, rfl, trivial⟩ ?_
      refine wc_ret ?_
      refine (then_ret ?_)
      have hB57 : Below w.heap.size w W54 := (below_step (below_step (below_step hB43 hE49) hE52) hE55)
      have hag := agree_route hva hvb hc56
      refine ⟨[_, _, _], ⟨rfl, rfl, rfl, trivial⟩, ⟨none, 0, 0, ?_, (by rw [hag]; exact rd_nil _ _ _), hB57⟩⟩
      rw [hag]
      rfl
    · have hc56r := hc56
      have hc56 := of_decide_eq_false hc56
      refine wc_skip ?_
      refine (then_norm ?_)
      refine WC.sub [(4, .slice none 0 0), (5, .int .i64 0), (6, .int .i64 0), (7, .slice A137 n138 c139), (8, .slice A144 n145 c146), (9, .int .i64 (valueOf (agC a) 11))] ⟨rfl, rfl, rfl, rfl, rfl, rfl, trivial⟩ ?_
      refine wc_seq ?_
      refine wc_region ?_
      refine wl_op rfl (op_move rfl rfl ?_)
      have hB58 : Below W41.heap.size W41 W54 := (below_step (below_step hB50 hE52) hE55)
      refine wl_op rfl (op_call ent48 rfl (rvalue_spec (hp40.ext (flat_lifts _) hB58)) rfl ?_)
      rintro _ W59 ⟨rfl, hE60⟩
      refine wl_op rfl (op_assign rfl rfl ?_)
      refine (wl_done (then_norm ?_))
      refine wc_join (fun l' w' => ∃ (x : Int), Sub [(4, .slice none 0 0), (5, .int .i64 0), (6, .int .i64 0), (7, .slice A137 n138 c139), (8, .slice A144 n145 c146), (9, .int .i64 (valueOf (agC a) 11)), (10, .int .i64 x)] l' ∧ Below W59.heap.size W59 w' ∧ (x = limitOf (agC a) (agC b))) ?_ ?_
      · refine wc_seq ?_
        refine wc_region ?_
        refine wl_op rfl (op_move rfl rfl ?_)
        have hB62 : Below W48.heap.size W48 W59 := (below_step (below_step hB53 hE55) hE60)
        refine wl_op rfl (op_call ent48 rfl (rvalue_spec (hp47.ext (flat_lifts _) hB62)) rfl ?_)
        rintro _ W63 ⟨rfl, hE64⟩
        refine wl_op rfl (op_assign rfl rfl ?_)
        refine (wl_done (then_norm ?_))
        refine wc_seq ?_
        refine wc_text [(4, .slice none 0 0), (5, .int .i64 0), (6, .int .i64 0), (7, .slice A137 n138 c139), (8, .slice A144 n145 c146), (9, .int .i64 (valueOf (agC a) 11)), (10, .int .i64 (valueOf (agC a) 10)), (11, .int .i64 (valueOf (agC b) 10))] ⟨rfl, rfl, rfl, rfl, rfl, rfl, rfl, rfl, trivial⟩ [fun v _ => v = .int .i64 (valueOf (agC a) 10), fun v _ => v = .bool (decide (valueOf (agC a) 10 = 0)), fun v _ => v = .bool (decide (valueOf (agC a) 10 = 0)), fun v _ => v = (bif (!(decide (valueOf (agC a) 10 = 0))) then (.int .i64 (valueOf (agC b) 10)) else undef), fun v _ => v = (bif (!(decide (valueOf (agC a) 10 = 0))) then (.bool (!decide (valueOf (agC b) 10 = 0))) else undef), fun v _ => v = (bif (!(decide (valueOf (agC a) 10 = 0))) then (.bool (!decide (valueOf (agC b) 10 = 0))) else undef), fun v _ => v = (bif ((!(decide (valueOf (agC a) 10 = 0))) && (!decide (valueOf (agC b) 10 = 0))) then (.int .i64 (valueOf (agC b) 10)) else undef), fun v _ => v = (bif ((!(decide (valueOf (agC a) 10 = 0))) && (!decide (valueOf (agC b) 10 = 0))) then (.int .i64 (valueOf (agC a) 10)) else undef), fun v _ => v = (bif ((!(decide (valueOf (agC a) 10 = 0))) && (!decide (valueOf (agC b) 10 = 0))) then (.bool (decide (valueOf (agC b) 10 < valueOf (agC a) 10))) else undef), fun v _ => v = (bif (!(decide (valueOf (agC a) 10 = 0))) then (.bool ((!decide (valueOf (agC b) 10 = 0)) && (decide (valueOf (agC b) 10 < valueOf (agC a) 10)))) else undef), fun v _ => v = .bool ((decide (valueOf (agC a) 10 = 0)) || ((!decide (valueOf (agC b) 10 = 0)) && (decide (valueOf (agC b) 10 < valueOf (agC a) 10))))] [[], [0], [1], [2], [2, 3], [2, 4], [5], [5], [5, 6, 7], [2, 5, 8], [2, 9]] [10] rfl rfl rfl ⟨fun _ _ _ _ h => h, fun _ _ _ _ h => h, fun _ _ _ _ h => h, fun _ _ _ _ h => h, fun _ _ _ _ h => h, fun _ _ _ _ h => h, fun _ _ _ _ h => h, fun _ _ _ _ h => h, fun _ _ _ _ h => h, fun _ _ _ _ h => h, fun _ _ _ _ h => h, trivial⟩ ⟨?_, ?_, ?_, ?_, ?_, ?_, ?_, ?_, ?_, ?_, ?_, trivial⟩ ?_
        · intro W65 hW66
          refine gather_nil ?_
          refine opg_none rfl ?_
          exact op_move rfl rfl ⟨⟨_, rfl, rfl⟩, (Below.refl _ _)⟩
        · intro W65 hW66
          rintro _ rfl
          refine gather_nil ?_
          refine opg_none rfl ?_
          exact op_eql rfl rfl rfl ⟨⟨_, rfl, rfl⟩, (Below.refl _ _)⟩
        · intro W65 hW66
          rintro _ rfl
          refine gather_nil ?_
          refine opg_none rfl ?_
          exact op_move rfl rfl ⟨⟨_, rfl, rfl⟩, (Below.refl _ _)⟩
        · intro W65 hW66
          rintro _ rfl
          refine gather_nil ?_
          refine opg_f1 rfl rfl (fun hg67 => ?_) (fun h => by rw [h, cond_false])
          exact op_move rfl rfl ⟨⟨_, rfl, (by rw [hg67, cond_true])⟩, (Below.refl _ _)⟩
        · intro W65 hW66
          rintro _ rfl
          intro v68 (hv69 : v68 = bif (!(decide (valueOf (agC a) 10 = 0))) then (.int .i64 (valueOf (agC b) 10)) else undef)
          refine gather_nil ?_
          refine opg_f1 rfl rfl (fun hg70 => ?_) (fun h => by rw [h, cond_false])
          obtain rfl : v68 = .int .i64 (valueOf (agC b) 10) := by rw [hv69, hg70, cond_true]
          exact op_neq rfl rfl rfl ⟨⟨_, rfl, (by rw [hg70, cond_true])⟩, (Below.refl _ _)⟩
        · intro W65 hW66
          rintro _ rfl
          intro v71 (hv72 : v71 = bif (!(decide (valueOf (agC a) 10 = 0))) then (.bool (!decide (valueOf (agC b) 10 = 0))) else undef)
          refine gather_nil ?_
          refine opg_f1 rfl rfl (fun hg73 => ?_) (fun h => by rw [h, cond_false])
          obtain rfl : v71 = .bool (!decide (valueOf (agC b) 10 = 0)) := by rw [hv72, hg73, cond_true]
          exact op_move rfl rfl ⟨⟨_, rfl, (by rw [hg73, cond_true])⟩, (Below.refl _ _)⟩
        · intro W65 hW66
          intro v74 (hv75 : v74 = bif (!(decide (valueOf (agC a) 10 = 0))) then (.bool (!decide (valueOf (agC b) 10 = 0))) else undef)
          refine gather_nil ?_
          refine opg_t rfl rfl hv75 (fun hg76 => ?_) (fun h => by rw [h, cond_false])
          obtain rfl : v74 = .bool (!decide (valueOf (agC b) 10 = 0)) := by rw [hv75, (and_l hg76), cond_true]
          exact op_move rfl rfl ⟨⟨_, rfl, (by rw [hg76, cond_true])⟩, (Below.refl _ _)⟩
        · intro W65 hW66
          intro v77 (hv78 : v77 = bif (!(decide (valueOf (agC a) 10 = 0))) then (.bool (!decide (valueOf (agC b) 10 = 0))) else undef)
          refine gather_nil ?_
          refine opg_t rfl rfl hv78 (fun hg79 => ?_) (fun h => by rw [h, cond_false])
          obtain rfl : v77 = .bool (!decide (valueOf (agC b) 10 = 0)) := by rw [hv78, (and_l hg79), cond_true]
          exact op_move rfl rfl ⟨⟨_, rfl, (by rw [hg79, cond_true])⟩, (Below.refl _ _)⟩
        · intro W65 hW66
          intro v80 (hv81 : v80 = bif (!(decide (valueOf (agC a) 10 = 0))) then (.bool (!decide (valueOf (agC b) 10 = 0))) else undef)
          intro v82 (hv83 : v82 = bif ((!(decide (valueOf (agC a) 10 = 0))) && (!decide (valueOf (agC b) 10 = 0))) then (.int .i64 (valueOf (agC b) 10)) else undef)
          intro v84 (hv85 : v84 = bif ((!(decide (valueOf (agC a) 10 = 0))) && (!decide (valueOf (agC b) 10 = 0))) then (.int .i64 (valueOf (agC a) 10)) else undef)
          refine gather_nil ?_
          refine opg_t rfl rfl hv81 (fun hg86 => ?_) (fun h => by rw [h, cond_false])
          obtain rfl : v80 = .bool (!decide (valueOf (agC b) 10 = 0)) := by rw [hv81, (and_l hg86), cond_true]
          obtain rfl : v82 = .int .i64 (valueOf (agC b) 10) := by rw [hv83, hg86, cond_true]
          obtain rfl : v84 = .int .i64 (valueOf (agC a) 10) := by rw [hv85, hg86, cond_true]
          exact op_lss rfl rfl rfl ⟨⟨_, rfl, (by rw [hg86, cond_true])⟩, (Below.refl _ _)⟩
        · intro W65 hW66
          rintro _ rfl
          intro v87 (hv88 : v87 = bif (!(decide (valueOf (agC a) 10 = 0))) then (.bool (!decide (valueOf (agC b) 10 = 0))) else undef)
          intro v89 (hv90 : v89 = bif ((!(decide (valueOf (agC a) 10 = 0))) && (!decide (valueOf (agC b) 10 = 0))) then (.bool (decide (valueOf (agC b) 10 < valueOf (agC a) 10))) else undef)
          refine gather_nil ?_
          refine opg_f1 rfl rfl (fun hg91 => ?_) (fun h => by rw [h, cond_false])
          obtain rfl : v87 = .bool (!decide (valueOf (agC b) 10 = 0)) := by rw [hv88, hg91, cond_true]
          exact op_and rfl rfl rfl (fun h => by rw [hv90, (and_i hg91 h), cond_true]) rfl ⟨⟨_, rfl, (by rw [hg91, cond_true])⟩, (Below.refl _ _)⟩
        · intro W65 hW66
          rintro _ rfl
          intro v92 (hv93 : v92 = bif (!(decide (valueOf (agC a) 10 = 0))) then (.bool ((!decide (valueOf (agC b) 10 = 0)) && (decide (valueOf (agC b) 10 < valueOf (agC a) 10)))) else undef)
          refine gather_nil ?_
          refine opg_none rfl ?_
          exact op_or rfl rfl rfl (fun h => by rw [hv93, (not_i h), cond_true]) rfl ⟨⟨_, rfl, rfl⟩, (Below.refl _ _)⟩
        intro W94 hW95
        rintro _ rfl
        refine gather_nil ?_
        refine (then_norm ?_)
        refine wc_cond (b := (decide (valueOf (agC a) 10 = 0)) || ((!decide (valueOf (agC b) 10 = 0)) && (decide (valueOf (agC b) 10 < valueOf (agC a) 10)))) rfl (fun hc96 => ?_) (fun hc96 => ?_)
        · refine wc_region ?_
          refine wl_op rfl (op_move rfl rfl ?_)
          refine wl_op rfl (op_assign rfl rfl ?_)
          refine (wl_done (then_norm ?_))
          have hB97 : Below W59.heap.size W59 W94 := (below_step (below_step (Below.refl _ _) hE64) hW95)
          exact ⟨valueOf (agC b) 10, ⟨rfl, rfl, rfl, rfl, rfl, rfl, rfl, trivial⟩, hB97, (lim_rt hc96 (val_rng hvb 10 rfl).1)⟩
        · refine wc_skip ?_
          refine (then_norm ?_)
          have hB98 : Below W59.heap.size W59 W94 := (below_step (below_step (Below.refl _ _) hE64) hW95)
          exact ⟨valueOf (agC a) 10, ⟨rfl, rfl, rfl, rfl, rfl, rfl, rfl, trivial⟩, hB98, (lim_rf hc96)⟩
      · rintro l' W61 ⟨x, hsub, hE99, rfl⟩
        refine WC.sub _ hsub ?_
        refine wc_seq ?_
        refine wc_region ?_
        refine wl_op rfl (op_move rfl rfl ?_)
        have hB100 : Below W41.heap.size W41 W61 := (below_step (below_step hB58 hE60) hE99)
        refine wl_op rfl (op_call ent48 rfl (rvalue_spec (hp40.ext (flat_lifts _) hB100)) rfl ?_)
        rintro _ W101 ⟨rfl, hE102⟩
        refine wl_op rfl (op_assign rfl rfl ?_)
        refine (wl_done (then_norm ?_))
        refine wc_join (fun l' w' => ∃ (x : Int), Sub [(4, .slice none 0 0), (5, .int .i64 0), (6, .int .i64 0), (7, .slice A137 n138 c139), (8, .slice A144 n145 c146), (9, .int .i64 (valueOf (agC a) 11)), (10, .int .i64 (limitOf (agC a) (agC b))), (12, .int .i64 x)] l' ∧ Below W101.heap.size W101 w' ∧ (x = prioOf (agC a) (agC b))) ?_ ?_
        · refine wc_seq ?_
          refine wc_region ?_
          refine wl_op rfl (op_move rfl rfl ?_)
          have hB104 : Below W48.heap.size W48 W101 := (below_step (below_step (below_step (below_step hB53 hE55) hE60) hE99) hE102)
          refine wl_op rfl (op_call ent49 rfl (rhas_spec (hp47.ext (flat_lifts _) hB104)) rfl ?_)
          rintro _ W105 ⟨rfl, hE106⟩
          refine (wl_done (then_norm ?_))
          refine wc_cond (b := (agC b).any (fun p => decide (p.kind = 12))) rfl (fun hc107 => ?_) (fun hc107 => ?_)
          · refine wc_region ?_
            refine wl_op rfl (op_move rfl rfl ?_)
            refine wl_op rfl (op_move rfl rfl ?_)
            have hB108 : Below W48.heap.size W48 W105 := (below_step hB104 hE106)
            refine wl_op rfl (op_call ent48 rfl (rvalue_spec (hp47.ext (flat_lifts _) hB108)) rfl ?_)
            rintro _ W109 ⟨rfl, hE110⟩
            refine wl_op rfl (op_min rfl rfl rfl rfl ?_)
            refine wl_op rfl (op_assign rfl rfl ?_)
            refine (wl_done (then_norm ?_))
            have hB111 : Below W101.heap.size W101 W109 := (below_step (below_step (Below.refl _ _) hE106) hE110)
            exact ⟨(if valueOf (agC b) 12 < valueOf (agC a) 12 then valueOf (agC b) 12 else valueOf (agC a) 12), ⟨rfl, rfl, rfl, rfl, rfl, rfl, rfl, rfl, trivial⟩, hB111, (by unfold prioOf; rw [if_pos hc107])⟩
          · refine wc_skip ?_
            refine (then_norm ?_)
            have hB112 : Below W101.heap.size W101 W105 := (below_step (Below.refl _ _) hE106)
            exact ⟨valueOf (agC a) 12, ⟨rfl, rfl, rfl, rfl, rfl, rfl, rfl, rfl, trivial⟩, hB112, (by unfold prioOf; rw [if_neg (fun h => by rw [show hasPrio (agC b) = false from hc107] at h; cases h)])⟩
        · rintro l' W103 ⟨x, hsub, hE113, rfl⟩
          refine WC.sub _ hsub ?_
          refine wc_seq ?_
          refine wc_region ?_
          refine wl_op rfl (op_move rfl rfl ?_)
          have hB114 : Below W41.heap.size W41 W103 := (below_step (below_step hB100 hE102) hE113)
          refine wl_op rfl (op_call ent48 rfl (rvalue_spec (hp40.ext (flat_lifts _) hB114)) rfl ?_)
          rintro _ W115 ⟨rfl, hE116⟩
          refine wl_op rfl (op_assign rfl rfl ?_)
          refine (wl_done (then_norm ?_))
          refine wc_join (fun l' w' => ∃ (x : Int), Sub [(4, .slice none 0 0), (5, .int .i64 0), (6, .int .i64 0), (7, .slice A137 n138 c139), (8, .slice A144 n145 c146), (9, .int .i64 (valueOf (agC a) 11)), (10, .int .i64 (limitOf (agC a) (agC b))), (12, .int .i64 (prioOf (agC a) (agC b))), (13, .int .i64 x)] l' ∧ Below W115.heap.size W115 w' ∧ (x = orderOf (agC a) (agC b))) ?_ ?_
          · refine wc_seq ?_
            refine wc_region ?_
            refine wl_op rfl (op_move rfl rfl ?_)
            refine wl_op rfl (op_eql rfl rfl rfl ?_)
            refine (wl_done (then_norm ?_))
            refine wc_cond (b := decide (valueOf (agC a) 13 = 1)) rfl (fun hc118 => ?_) (fun hc118 => ?_)
            · have hc118r := hc118
              have hc118 := of_decide_eq_true hc118
              refine wc_region ?_
              refine wl_op rfl (op_move rfl rfl ?_)
              have hB119 : Below W48.heap.size W48 W115 := (below_step (below_step (below_step (below_step (below_step (below_step hB53 hE55) hE60) hE99) hE102) hE113) hE116)
              refine wl_op rfl (op_call ent48 rfl (rvalue_spec (hp47.ext (flat_lifts _) hB119)) rfl ?_)
              rintro _ W120 ⟨rfl, hE121⟩
              refine wl_op rfl (op_assign rfl rfl ?_)
              refine (wl_done (then_norm ?_))
              have hB122 : Below W115.heap.size W115 W120 := (below_step (Below.refl _ _) hE121)
              exact ⟨valueOf (agC b) 13, ⟨rfl, rfl, rfl, rfl, rfl, rfl, rfl, rfl, rfl, trivial⟩, hB122, (by unfold orderOf; rw [if_pos hc118])⟩
            · have hc118r := hc118
              have hc118 := of_decide_eq_false hc118
              refine wc_skip ?_
              refine (then_norm ?_)
              exact ⟨valueOf (agC a) 13, ⟨rfl, rfl, rfl, rfl, rfl, rfl, rfl, rfl, rfl, trivial⟩, (Below.refl _ _), (by unfold orderOf; rw [if_neg hc118])⟩
          · rintro l' W117 ⟨x, hsub, hE123, rfl⟩
            refine WC.sub _ hsub ?_
            refine wc_seq ?_
            refine wc_region ?_
            refine wl_op rfl (op_move rfl rfl ?_)
            have hB124 : Below W41.heap.size W41 W117 := (below_step (below_step hB114 hE116) hE123)
            refine wl_op rfl (op_call ent48 rfl (rvalue_spec (hp40.ext (flat_lifts _) hB124)) rfl ?_)
            rintro _ W125 ⟨rfl, hE126⟩
            refine wl_op rfl (op_move rfl rfl ?_)
            have hB127 : Below W48.heap.size W48 W125 := (below_step (below_step (below_step (below_step (below_step (below_step (below_step (below_step hB53 hE55) hE60) hE99) hE102) hE113) hE116) hE123) hE126)
            refine wl_op rfl (op_call ent48 rfl (rvalue_spec (hp47.ext (flat_lifts _) hB127)) rfl ?_)
            rintro _ W128 ⟨rfl, hE129⟩
            refine wl_op rfl (op_call ent50 rfl (rstronger_spec) rfl ?_)
            rintro _ W130 ⟨rfl, hE131⟩
            refine wl_op rfl (op_build (v := .agg #[.int .i64 8, .int .i64 (if strengthR 8 (valueOf (agC a) 8) < strengthR 8 (valueOf (agC b) 8) then (valueOf (agC b) 8) else (valueOf (agC a) 8))]) rfl (fun w => by kernel_rfl) rfl ?_)
            refine wl_op rfl (op_move rfl rfl ?_)
            have hB132 : Below W41.heap.size W41 W130 := (below_step (below_step (below_step hB124 hE126) hE129) hE131)
            refine wl_op rfl (op_call ent48 rfl (rvalue_spec (hp40.ext (flat_lifts _) hB132)) rfl ?_)
            rintro _ W133 ⟨rfl, hE134⟩
            refine wl_op rfl (op_move rfl rfl ?_)
            have hB135 : Below W48.heap.size W48 W133 := (below_step (below_step (below_step hB127 hE129) hE131) hE134)
            refine wl_op rfl (op_call ent48 rfl (rvalue_spec (hp47.ext (flat_lifts _) hB135)) rfl ?_)
            rintro _ W136 ⟨rfl, hE137⟩
            refine wl_op rfl (op_call ent50 rfl (rstronger_spec) rfl ?_)
            rintro _ W138 ⟨rfl, hE139⟩
            refine wl_op rfl (op_build (v := .agg #[.int .i64 9, .int .i64 (if strengthR 9 (valueOf (agC a) 9) < strengthR 9 (valueOf (agC b) 9) then (valueOf (agC b) 9) else (valueOf (agC a) 9))]) rfl (fun w => by kernel_rfl) rfl ?_)
            refine wl_op rfl (op_move rfl rfl ?_)
            refine wl_op rfl (op_build (v := .agg #[.int .i64 10, .int .i64 (limitOf (agC a) (agC b))]) rfl (fun w => by kernel_rfl) rfl ?_)
            refine wl_op rfl (op_move rfl rfl ?_)
            refine wl_op rfl (op_build (v := .agg #[.int .i64 11, .int .i64 (valueOf (agC a) 11)]) rfl (fun w => by kernel_rfl) rfl ?_)
            refine wl_op rfl (op_move rfl rfl ?_)
            refine wl_op rfl (op_build (v := .agg #[.int .i64 12, .int .i64 (prioOf (agC a) (agC b))]) rfl (fun w => by kernel_rfl) rfl ?_)
            refine wl_op rfl (op_move rfl rfl ?_)
            refine wl_op rfl (op_build (v := .agg #[.int .i64 13, .int .i64 (orderOf (agC a) (agC b))]) rfl (fun w => by kernel_rfl) rfl ?_)
            refine wl_op rfl (op_buildSlice (cs := #[.int .i64 8, .int .i64 (if strengthR 8 (valueOf (agC a) 8) < strengthR 8 (valueOf (agC b) 8) then (valueOf (agC b) 8) else (valueOf (agC a) 8)), .int .i64 9, .int .i64 (if strengthR 9 (valueOf (agC a) 9) < strengthR 9 (valueOf (agC b) 9) then (valueOf (agC b) 9) else (valueOf (agC a) 9)), .int .i64 10, .int .i64 (limitOf (agC a) (agC b)), .int .i64 11, .int .i64 (valueOf (agC a) 11), .int .i64 12, .int .i64 (prioOf (agC a) (agC b)), .int .i64 13, .int .i64 (orderOf (agC a) (agC b))]) (e := 46) rfl (fun w => by kernel_rfl) rfl ?_)
            intro W140 b141 hN142
            have hb143 : W140.heap[b141]? = some (.cells #[.int .i64 8, .int .i64 (if strengthR 8 (valueOf (agC a) 8) < strengthR 8 (valueOf (agC b) 8) then (valueOf (agC b) 8) else (valueOf (agC a) 8)), .int .i64 9, .int .i64 (if strengthR 9 (valueOf (agC a) 9) < strengthR 9 (valueOf (agC b) 9) then (valueOf (agC b) 9) else (valueOf (agC a) 9)), .int .i64 10, .int .i64 (limitOf (agC a) (agC b)), .int .i64 11, .int .i64 (valueOf (agC a) 11), .int .i64 12, .int .i64 (prioOf (agC a) (agC b)), .int .i64 13, .int .i64 (orderOf (agC a) (agC b))] 46 (0, 0)) := hN142.blk
            refine wl_op rfl (op_assign rfl rfl ?_)
            refine (wl_done (then_norm ?_))
            refine WC.sub [(4, .slice none 0 0), (5, .int .i64 0), (6, .int .i64 0), (14, .slice (some ⟨b141, 0, none⟩) 6 6)] ⟨rfl, rfl, rfl, rfl, trivial⟩ ?_
            refine wc_seq ?_
            refine wc_seq ?_
            refine wc_region ?_
            refine wl_op rfl (op_move rfl rfl ?_)
            refine wl_op rfl (op_call ent41 rfl (rclashes_spec (rd_of_blk (enc := encP) [(⟨8, if strengthR 8 (valueOf (agC a) 8) < strengthR 8 (valueOf (agC b) 8) then (valueOf (agC b) 8) else (valueOf (agC a) 8)⟩ : Pol), (⟨9, if strengthR 9 (valueOf (agC a) 9) < strengthR 9 (valueOf (agC b) 9) then (valueOf (agC b) 9) else (valueOf (agC a) 9)⟩ : Pol), (⟨10, limitOf (agC a) (agC b)⟩ : Pol), (⟨11, valueOf (agC a) 11⟩ : Pol), (⟨12, prioOf (agC a) (agC b)⟩ : Pol), (⟨13, orderOf (agC a) (agC b)⟩ : Pol)] hb143 (fun _ => rfl) rfl rfl rfl) (val_rng hva 11 rfl).1) rfl ?_)
            rintro _ W148 ⟨A1144, n1145, c1146, rfl, hp147, hE149⟩
            have hout : ([(⟨8, if strengthR 8 (valueOf (agC a) 8) < strengthR 8 (valueOf (agC b) 8) then (valueOf (agC b) 8) else (valueOf (agC a) 8)⟩ : Pol), (⟨9, if strengthR 9 (valueOf (agC a) 9) < strengthR 9 (valueOf (agC b) 9) then (valueOf (agC b) 9) else (valueOf (agC a) 9)⟩ : Pol), (⟨10, limitOf (agC a) (agC b)⟩ : Pol), (⟨11, valueOf (agC a) 11⟩ : Pol), (⟨12, prioOf (agC a) (agC b)⟩ : Pol), (⟨13, orderOf (agC a) (agC b)⟩ : Pol)] : List Pol) = agreed (agC a) (agC b) := by rw [cert_eq hva hvb]; rfl
            rw [hout] at hp147
            have hlen1 := hp147.len
            refine wl_op rfl (op_assign rfl rfl ?_)
            refine (wl_done (then_norm ?_))
            refine wc_seq ?_
            refine wc_region ?_
            refine wl_op rfl (op_move rfl rfl ?_)
            refine wl_op rfl (op_len_slice rfl rfl und25 rfl rfl ?_)
            refine wl_op rfl (op_gtr rfl rfl rfl ?_)
            refine (wl_done (then_norm ?_))
            refine wc_cond (b := decide (0 < ((n1145 : Nat) : Int))) rfl (fun hc150 => ?_) (fun hc150 => ?_)
            · have hc150r := hc150
              have hc150 := of_decide_eq_true hc150
              refine wc_seq ?_
              obtain ⟨bs153, os154, hA155, hc156⟩ := hp147.flat
              have hln157 := hp147.len
              have hbd158 := hp147.bd
              obtain ⟨x_hp147_0, hx_hp147_0⟩ : ∃ x, (clashList (agreed (agC a) (agC b)))[0]? = some x := ⟨_, List.getElem?_eq_getElem (by have := hp147.len; omega)⟩
              refine wc_draw mixed [(14, .slice (some ⟨b141, 0, none⟩) 6 6), (15, .slice A1144 n1145 c1146)] ⟨rfl, rfl, trivial⟩ [fun v _ => v = .slice A1144 n1145 c1146, fun v _ => v = .pointer (some ⟨bs153, os154 + 0 * 2, none⟩), fun v _ => v = .pointer (some ⟨bs153, os154 + 0 * 2 + 0 * 1, none⟩), fun v _ => v = .int .i64 x_hp147_0.1, fun v _ => v = .slice none 0 0, fun v _ => v = .int .i64 x_hp147_0.1, fun v _ => v = .int .i64 9] [[], [0], [1], [2], [], [3], []] [4, 5, 6] rfl rfl rfl ⟨fun _ _ _ _ h => h, fun _ _ _ _ h => h, fun _ _ _ _ h => h, fun _ _ _ _ h => h, fun _ _ _ _ h => h, fun _ _ _ _ h => h, fun _ _ _ _ h => h, trivial⟩ ⟨?_, ?_, ?_, ?_, ?_, ?_, ?_, trivial⟩ ?_
              · intro W151 hW152
                refine gather_nil ?_
                refine opg_none rfl ?_
                exact op_move rfl rfl ⟨⟨_, rfl, rfl⟩, (Below.refl _ _)⟩
              · intro W151 hW152
                rintro _ rfl
                refine gather_nil ?_
                refine opg_none rfl ?_
                exact op_indexAddr (j := 0) rfl rfl und25 sz29 (hA155 (by omega)) rfl (by omega) rfl ⟨⟨_, rfl, rfl⟩, (Below.refl _ _)⟩
              · intro W151 hW152
                rintro _ rfl
                refine gather_nil ?_
                refine opg_none rfl ?_
                exact op_indexArr (j := 0) rfl rfl und29 sz3 rfl (by omega) rfl ⟨⟨_, rfl, rfl⟩, (Below.refl _ _)⟩
              · intro W151 hW152
                rintro _ rfl
                refine gather_nil ?_
                refine opg_none rfl ?_
                have hB160 : Below W148.heap.size W148 W151 := (below_step (Below.refl _ _) hW152)
                exact op_load1 (v := .int .i64 x_hp147_0.1) rfl agg3 (((hc156 0 x_hp147_0 hx_hp147_0).ext hB160).at (i := 0) rfl) rfl ⟨⟨_, rfl, rfl⟩, (Below.refl _ _)⟩
              · intro W151 hW152
                refine gather_nil ?_
                refine opg_none rfl ?_
                exact op_assign rfl rfl ⟨⟨_, rfl, rfl⟩, (Below.refl _ _)⟩
              · intro W151 hW152
                rintro _ rfl
                refine gather_nil ?_
                refine opg_none rfl ?_
                exact op_assign rfl rfl ⟨⟨_, rfl, rfl⟩, (Below.refl _ _)⟩
              · intro W151 hW152
                refine gather_nil ?_
                refine opg_none rfl ?_
                exact op_assign rfl rfl ⟨⟨_, rfl, rfl⟩, (Below.refl _ _)⟩
              intro W161 hW162
              rintro _ rfl
              rintro _ rfl
              rintro _ rfl
              refine gather_nil ?_
              refine (then_norm ?_)
              refine wc_ret ?_
              refine (then_ret ?_)
              have hB163 : Below w.heap.size w W161 := (below_step (below_step (below_new (below_step (below_step (below_step (below_step (below_step (below_step (below_step (below_step (below_step (below_step (below_step (below_step (below_step (below_step (below_step hB43 hE49) hE52) hE55) hE60) hE99) hE102) hE113) hE116) hE123) hE126) hE129) hE131) hE134) hE137) hE139) hN142) hE149) hW162)
              have hag := agree_clash_r hva hvb hc56 hx_hp147_0
              refine ⟨[_, _, _], ⟨rfl, rfl, rfl, trivial⟩, ⟨none, 0, 0, ?_, (by rw [hag]; exact rd_nil _ _ _), hB163⟩⟩
              rw [hag]
              rfl
            · have hc150r := hc150
              have hc150 := of_decide_eq_false hc150
              refine wc_skip ?_
              refine (then_norm ?_)
              refine WC.sub [(4, .slice none 0 0), (5, .int .i64 0), (6, .int .i64 0), (14, .slice (some ⟨b141, 0, none⟩) 6 6)] ⟨rfl, rfl, rfl, rfl, trivial⟩ ?_
              refine wc_seq ?_
              refine wc_region ?_
              refine wl_op rfl (op_move rfl rfl ?_)
              have hb164 : W148.heap[b141]? = some (.cells #[.int .i64 8, .int .i64 (if strengthR 8 (valueOf (agC a) 8) < strengthR 8 (valueOf (agC b) 8) then (valueOf (agC b) 8) else (valueOf (agC a) 8)), .int .i64 9, .int .i64 (if strengthR 9 (valueOf (agC a) 9) < strengthR 9 (valueOf (agC b) 9) then (valueOf (agC b) 9) else (valueOf (agC a) 9)), .int .i64 10, .int .i64 (limitOf (agC a) (agC b)), .int .i64 11, .int .i64 (valueOf (agC a) 11), .int .i64 12, .int .i64 (prioOf (agC a) (agC b)), .int .i64 13, .int .i64 (orderOf (agC a) (agC b))] 46 (0, 0)) := (blk_ext hb143 hE149)
              refine wl_op rfl (op_call ent51 rfl (rplain_spec (rd_of_blk (enc := encP) [(⟨8, if strengthR 8 (valueOf (agC a) 8) < strengthR 8 (valueOf (agC b) 8) then (valueOf (agC b) 8) else (valueOf (agC a) 8)⟩ : Pol), (⟨9, if strengthR 9 (valueOf (agC a) 9) < strengthR 9 (valueOf (agC b) 9) then (valueOf (agC b) 9) else (valueOf (agC a) 9)⟩ : Pol), (⟨10, limitOf (agC a) (agC b)⟩ : Pol), (⟨11, valueOf (agC a) 11⟩ : Pol), (⟨12, prioOf (agC a) (agC b)⟩ : Pol), (⟨13, orderOf (agC a) (agC b)⟩ : Pol)] hb164 (fun _ => rfl) rfl rfl rfl) (by omega)) rfl ?_)
              rintro _ W169 ⟨A1165, n1166, c1167, rfl, hp168, hE170⟩
              rw [hout] at hp168
              refine wl_op rfl (op_assign rfl rfl ?_)
              refine wl_op rfl (op_assign rfl rfl ?_)
              refine wl_op rfl (op_assign rfl rfl ?_)
              refine (wl_done (then_norm ?_))
              refine wc_ret ?_
              have hB171 : Below w.heap.size w W169 := (below_step (below_step (below_new (below_step (below_step (below_step (below_step (below_step (below_step (below_step (below_step (below_step (below_step (below_step (below_step (below_step (below_step (below_step hB43 hE49) hE52) hE55) hE60) hE99) hE102) hE113) hE116) hE123) hE126) hE129) hE131) hE134) hE137) hE139) hN142) hE149) hE170)
              have hag := agree_fine_r hva hvb hc56 (by omega)
              refine ⟨[_, _, _], ⟨rfl, rfl, rfl, trivial⟩, ⟨A1165, n1166, c1167, ?_, (by rw [hag]; exact hp168), hB171⟩⟩
              rw [hag]
              rfl

end Go.Eng
