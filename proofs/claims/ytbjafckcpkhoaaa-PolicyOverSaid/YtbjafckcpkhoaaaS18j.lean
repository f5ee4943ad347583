/- Lemmas for a law of the seat: what functions of the program do, each stated as a contract of its own (module S18j). -/
import Derived.Test.YtbjafckcpkhoaaaS18i
import Derived.Test.YtbjafckcpkhoaaaChecked
set_option linter.unusedVariables false
set_option maxRecDepth 100000
namespace Go.Eng
open Go.RowKit Go.Shelf Go.Proofs Pol

theorem ent28 : Enters Try.prog 28 := enters_of Try.func28 (by kernel_rfl) rfl
theorem ent41 : Enters Try.prog 41 := enters_of Try.func41 (by kernel_rfl) rfl
theorem ent47 : Enters Try.prog 47 := enters_of Try.func47 (by kernel_rfl) rfl
theorem ent49 : Enters Try.prog 49 := enters_of Try.func49 (by kernel_rfl) rfl
theorem ent50 : Enters Try.prog 50 := enters_of Try.func50 (by kernel_rfl) rfl
theorem ent51 : Enters Try.prog 51 := enters_of Try.func51 (by kernel_rfl) rfl

theorem valid_mk {k v : Int} (h1 : isB k = true) (h2 : leastI k ≤ v) (h3 : v ≤ mostI k) : validB ⟨k, v⟩ = true := by
  have e : validB ⟨k, v⟩ = ((isB k && decide (leastI k ≤ v)) && decide (v ≤ mostI k)) := rfl
  rw [e, h1, decide_eq_true h2, decide_eq_true h3]; rfl
theorem val_rng {a : List Pol} (ha : validSet a = true) (k : Int) (h : isB k = true) : leastI k ≤ valueOf (agC a) k ∧ valueOf (agC a) k ≤ mostI k :=
  valueOf_rng (chosen_valid ha keepCalls) (isB_iff.1 h).1 (isB_iff.1 h).2
theorem agreed_valid {a b : List Pol} (ha : validSet a = true) (hb : validSet b = true) : validSet (agreed (agC a) (agC b)) = true := by
  have h8 : validB ⟨8, rebindOf (agC a) (agC b)⟩ = true := by
    have h1 := val_rng ha 8 rfl; have h2 := val_rng hb 8 rfl
    unfold rebindOf; split <;> exact valid_mk rfl (by omega) (by omega)
  have h9 : validB ⟨9, certOf (agC a) (agC b)⟩ = true := by
    have h1 := val_rng ha 9 rfl; have h2 := val_rng hb 9 rfl
    unfold certOf; split <;> exact valid_mk rfl (by omega) (by omega)
  have h10 : validB ⟨10, limitOf (agC a) (agC b)⟩ = true := by
    have h1 := val_rng ha 10 rfl; have h2 := val_rng hb 10 rfl
    unfold limitOf; split <;> exact valid_mk rfl (by omega) (by omega)
  have h11 : validB ⟨11, valueOf (agC a) 11⟩ = true := by
    have h1 := val_rng ha 11 rfl
    exact valid_mk rfl (by omega) (by omega)
  have h12 : validB ⟨12, prioOf (agC a) (agC b)⟩ = true := by
    have h1 := val_rng ha 12 rfl; have h2 := val_rng hb 12 rfl
    unfold prioOf; repeat' split
    all_goals exact valid_mk rfl (by omega) (by omega)
  have h13 : validB ⟨13, orderOf (agC a) (agC b)⟩ = true := by
    have h1 := val_rng ha 13 rfl; have h2 := val_rng hb 13 rfl
    unfold orderOf; split <;> exact valid_mk rfl (by omega) (by omega)
  rw [validSet_iff]
  intro i hi
  match i, hi with
  | 0, _ => show (validB _ && _) = true; rw [h8]; rfl
  | 1, _ => show (validB _ && _) = true; rw [h9]; rfl
  | 2, _ => show (validB _ && _) = true; rw [h10]; rfl
  | 3, _ => show (validB _ && _) = true; rw [h11]; rfl
  | 4, _ => show (validB _ && _) = true; rw [h12]; rfl
  | 5, _ => show (validB _ && _) = true; rw [h13]; rfl
  | i + 6, hi => exact absurd hi (by simp [agreed])
abbrev partF : Pol → Bool := fun p => (decide (8 ≤ p.kind)) && (decide (p.kind ≤ 13))
theorem part_calls {a : List Pol} (ha : validSet a = true) : a.filter partF = agC a := by
  unfold agC chosenL
  rw [if_pos ha]
  refine List.filter_congr fun p hp => ?_
  have := (valid_kind (mem_valid ha hp)).2
  simp [this]
theorem cert_eq {a b : List Pol} (ha : validSet a = true) (hb : validSet b = true) :
    (if strengthR 9 (valueOf (agC a) 9) < strengthR 9 (valueOf (agC b) 9) then valueOf (agC b) 9 else valueOf (agC a) 9) = certOf (agC a) (agC b) := by
  have h1 : 1 ≤ valueOf (agC a) 9 ∧ valueOf (agC a) 9 ≤ 4 := val_rng ha 9 rfl
  have h2 : 1 ≤ valueOf (agC b) 9 ∧ valueOf (agC b) 9 ≤ 4 := val_rng hb 9 rfl
  unfold certOf
  generalize valueOf (agC a) 9 = x at *
  generalize valueOf (agC b) 9 = y at *
  have hx : x = 1 ∨ x = 2 ∨ x = 3 ∨ x = 4 := by omega
  have hy : y = 1 ∨ y = 2 ∨ y = 3 ∨ y = 4 := by omega
  rcases hx with rfl | rfl | rfl | rfl <;> rcases hy with rfl | rfl | rfl | rfl <;> decide
theorem lim_rt {c s : List Pol} (h : ((decide (valueOf c 10 = 0)) || ((!decide (valueOf s 10 = 0)) && (decide (valueOf s 10 < valueOf c 10)))) = true) (h0 : 0 ≤ valueOf s 10) : valueOf s 10 = limitOf c s := by
  have h' : valueOf c 10 = 0 ∨ (¬ valueOf s 10 = 0 ∧ valueOf s 10 < valueOf c 10) := by simpa using h
  unfold limitOf
  by_cases hz : valueOf s 10 = 0
  · rw [if_neg (by omega)]; omega
  · rw [if_pos (by omega)]
theorem lim_rf {c s : List Pol} (h : ((decide (valueOf c 10 = 0)) || ((!decide (valueOf s 10 = 0)) && (decide (valueOf s 10 < valueOf c 10)))) = false) : valueOf c 10 = limitOf c s := by
  have h' : ¬ (valueOf c 10 = 0 ∨ (¬ valueOf s 10 = 0 ∧ valueOf s 10 < valueOf c 10)) := by
    intro k
    have : ((decide (valueOf c 10 = 0)) || ((!decide (valueOf s 10 = 0)) && (decide (valueOf s 10 < valueOf c 10)))) = true := by simpa using k
    rw [h] at this; cases this
  unfold limitOf
  rw [if_neg (by omega)]
theorem agree_clash_r {a b : List Pol} (hva : validSet a = true) (hvb : validSet b = true) (h : ¬ valueOf (agC b) 11 < valueOf (agC a) 11) {q : Int × Int} (hq : (clashList (agreed (agC a) (agC b)))[0]? = some q) : agree a b = ([], q.1, 9) := by
  refine agree_clash hva hvb h (q := q) ?_
  rw [clashL, if_pos (agreed_valid hva hvb)]; exact hq
theorem agree_fine_r {a b : List Pol} (hva : validSet a = true) (hvb : validSet b = true) (h : ¬ valueOf (agC b) 11 < valueOf (agC a) 11) (hq : (clashList (agreed (agC a) (agC b))).length = 0) :
    agree a b = ((agreed (agC a) (agC b)).filter keepPlain, 0, 0) := by
  rw [agree_fine hva hvb h (by rw [clashL, if_pos (agreed_valid hva hvb)]; exact hq), chosenL, if_pos (agreed_valid hva hvb), chosenE, if_pos (agreed_valid hva hvb)]

theorem rClashes_spec {w : World} {A : Option Addr} {n c : Nat} {s : List Pol} (hs : RdP w A n s) : Ret Try.prog 9 #[.slice A n c] w (fun v w' => ∃ (A1 : Option Addr) (n1 c1 : Nat), v = .tuple #[.slice A1 n1 c1, .int .i64 (chosenE s)] ∧ RdQ w' A1 n1 (clashL s) ∧ Below w.heap.size w w') := by
  obtain ⟨bs1, os2, hA3, hc4⟩ := hs.flat
  have hln5 := hs.len
  have hbd6 := hs.bd
  have hlen_s := hs.len
  refine ret_of (args := [.slice A n c]) Try.func9 rfl Try.ntmps9 rfl (rs := [.tmp 2, .tmp 3]) rfl ?_
  refine wc_seq ?_
  refine wc_region ?_
  refine wl_op rfl (op_assign rfl rfl ?_)
  refine wl_op rfl (op_assign rfl rfl ?_)
  refine (wl_done (then_norm ?_))
  refine wc_seq ?_
  refine wc_seq ?_
  refine wc_region ?_
  refine wl_op rfl (op_move rfl rfl ?_)
  refine wl_op rfl (op_call ent28 rfl (rValidSet_spec hs) rfl ?_)
  rintro _ W7 ⟨rfl, hE8⟩
  refine wl_op rfl (op_not rfl rfl ?_)
  refine (wl_done (then_norm ?_))
  refine wc_cond (b := !(validSet s)) rfl (fun hc9 => ?_) (fun hc9 => ?_)
  · have hv : validSet s = false := by simpa using hc9
    refine wc_seq ?_
    refine wc_region ?_
    refine wl_op rfl (op_assign rfl rfl ?_)
    refine wl_op rfl (op_assign rfl rfl ?_)
    refine (wl_done (then_norm ?_))
    refine wc_ret ?_
    refine (then_ret ?_)
    have hB10 : Below w.heap.size w W7 := (below_step (Below.refl _ _) hE8)
    refine ⟨[_, _], ⟨rfl, rfl, trivial⟩, ⟨none, 0, 0, ?_, (by rw [clashL, if_neg (by rw [hv]; decide)]; exact rd_nil _ _ _), hB10⟩⟩
    rw [chosenE, if_neg (by rw [hv]; decide)]
    rfl
  · have hv : validSet s = true := by simpa using hc9
    refine wc_skip ?_
    refine (then_norm ?_)
    refine wc_seq ?_
    refine wc_region ?_
    refine wl_op rfl (op_move rfl rfl ?_)
    have hB11 : Below w.heap.size w W7 := (below_step (Below.refl _ _) hE8)
    refine wl_op rfl (op_call ent41 rfl (rclashes_spec (hs.ext (flat_lifts _) hB11) (valueOf_rng (fun p hp => mem_valid hv hp) (k := 11) (by decide) (by decide)).1) rfl ?_)
    rintro _ W16 ⟨A112, n113, c114, rfl, hp15, hE17⟩
    refine wl_op rfl (op_assign rfl rfl ?_)
    refine wl_op rfl (op_assign rfl rfl ?_)
    refine (wl_done (then_norm ?_))
    refine WC.sub [(2, .slice A112 n113 c114), (3, .int .i64 0)] ⟨rfl, rfl, trivial⟩ ?_
    refine wc_ret ?_
    have hB18 : Below w.heap.size w W16 := (below_step hB11 hE17)
    refine ⟨[_, _], ⟨rfl, rfl, trivial⟩, ⟨A112, n113, c114, ?_, (by rw [clashL, if_pos hv]; exact hp15), hB18⟩⟩
    rw [chosenE, if_pos hv]
    rfl

theorem rAgree_spec {w : World} {A : Option Addr} {n c : Nat} {a : List Pol} {A2 : Option Addr} {n2 c2 : Nat} {b : List Pol} (hs : RdP w A n a) (hs2 : RdP w A2 n2 b) (hn : n ≤ 1000) (hn2 : n2 ≤ 1000) : Ret Try.prog 11 #[.slice A n c, .slice A2 n2 c2] w (fun v w' => ∃ (A1 : Option Addr) (n1 c1 : Nat), v = .tuple #[.slice A1 n1 c1, .int .i64 ((agree a b).2.1), .int .i64 ((agree a b).2.2)] ∧ RdP w' A1 n1 (agree a b).1 ∧ Below w.heap.size w w') := by
  obtain ⟨bs1, os2, hA3, hc4⟩ := hs.flat
  have hln5 := hs.len
  have hbd6 := hs.bd
  have hlen_a := hs.len
  obtain ⟨bs7, os8, hA9, hc10⟩ := hs2.flat
  have hln11 := hs2.len
  have hbd12 := hs2.bd
  have hlen_b := hs2.len
  refine ret_of (args := [.slice A n c, .slice A2 n2 c2]) Try.func11 rfl Try.ntmps11 rfl (rs := [.tmp 4, .tmp 5, .tmp 6]) rfl ?_
  refine wc_seq ?_
  refine wc_region ?_
  refine wl_op rfl (op_assign rfl rfl ?_)
  refine wl_op rfl (op_assign rfl rfl ?_)
  refine wl_op rfl (op_assign rfl rfl ?_)
  refine (wl_done (then_norm ?_))
  refine wc_seq ?_
  refine wc_seq ?_
  refine wc_text [(0, .slice A n c), (1, .slice A2 n2 c2), (4, .slice none 0 0), (5, .int .i64 0), (6, .int .i64 0)] ⟨rfl, rfl, rfl, rfl, rfl, trivial⟩ [fun v _ => v = .slice A n c, fun v _ => v = .bool (validSet a), fun v _ => v = .bool (!(validSet a)), fun v _ => v = .bool (!(validSet a)), fun v _ => v = (bif (!(!(validSet a))) then (.slice A2 n2 c2) else undef), fun v _ => v = (bif (!(!(validSet a))) then (.bool (validSet b)) else undef), fun v _ => v = (bif (!(!(validSet a))) then (.bool (!(validSet b))) else undef), fun v _ => v = .bool ((!(validSet a)) || (!(validSet b)))] [[], [0], [1], [2], [3], [3, 4], [3, 5], [3, 6]] [7] rfl rfl rfl ⟨fun _ _ _ _ h => h, fun _ _ _ _ h => h, fun _ _ _ _ h => h, fun _ _ _ _ h => h, fun _ _ _ _ h => h, fun _ _ _ _ h => h, fun _ _ _ _ h => h, fun _ _ _ _ h => h, trivial⟩ ⟨?_, ?_, ?_, ?_, ?_, ?_, ?_, ?_, trivial⟩ ?_
  · intro W13 hW14
    refine gather_nil ?_
    refine opg_none rfl ?_
    exact op_move rfl rfl ⟨told rfl rfl rfl, (Below.refl _ _)⟩
  · intro W13 hW14
    rintro _ rfl
    refine gather_nil ?_
    refine opg_none rfl ?_
    have hB17 : Below w.heap.size w W13 := (below_step (Below.refl _ _) hW14)
    refine op_call ent28 rfl (rValidSet_spec (hs.ext (flat_lifts _) hB17)) rfl ?_
    rintro _ W18 ⟨rfl, hE19⟩
    exact ⟨told rfl rfl rfl, hE19⟩
  · intro W13 hW14
    rintro _ rfl
    refine gather_nil ?_
    refine opg_none rfl ?_
    exact op_not rfl rfl ⟨told rfl rfl rfl, (Below.refl _ _)⟩
  · intro W13 hW14
    rintro _ rfl
    refine gather_nil ?_
    refine opg_none rfl ?_
    exact op_move rfl rfl ⟨told rfl rfl rfl, (Below.refl _ _)⟩
  · intro W13 hW14
    rintro _ rfl
    refine gather_nil ?_
    refine opg_f1 rfl rfl (fun hg20 => ?_) (fun h => by rw [h, cond_false])
    exact op_move rfl rfl ⟨told rfl rfl (by rw [hg20, cond_true]), (Below.refl _ _)⟩
  · intro W13 hW14
    rintro _ rfl
    intro v21 (hv22 : v21 = bif (!(!(validSet a))) then (.slice A2 n2 c2) else undef)
    refine gather_nil ?_
    refine opg_f1 rfl rfl (fun hg23 => ?_) (fun h => by rw [h, cond_false])
    obtain rfl : v21 = .slice A2 n2 c2 := by rw [hv22, hg23, cond_true]
    have hB24 : Below w.heap.size w W13 := (below_step (Below.refl _ _) hW14)
    refine op_call ent28 rfl (rValidSet_spec (hs2.ext (flat_lifts _) hB24)) rfl ?_
    rintro _ W25 ⟨rfl, hE26⟩
    exact ⟨told rfl rfl (by rw [hg23, cond_true]), hE26⟩
  · intro W13 hW14
    rintro _ rfl
    intro v27 (hv28 : v27 = bif (!(!(validSet a))) then (.bool (validSet b)) else undef)
    refine gather_nil ?_
    refine opg_f1 rfl rfl (fun hg29 => ?_) (fun h => by rw [h, cond_false])
    obtain rfl : v27 = .bool (validSet b) := by rw [hv28, hg29, cond_true]
    exact op_not rfl rfl ⟨told rfl rfl (by rw [hg29, cond_true]), (Below.refl _ _)⟩
  · intro W13 hW14
    rintro _ rfl
    intro v30 (hv31 : v30 = bif (!(!(validSet a))) then (.bool (!(validSet b))) else undef)
    refine gather_nil ?_
    refine opg_none rfl ?_
    exact op_or rfl rfl rfl (fun h => by rw [hv31, (not_i h), cond_true]) rfl ⟨told rfl rfl rfl, (Below.refl _ _)⟩
  intro W32 hW33
  rintro _ rfl
  refine gather_nil ?_
  refine (then_norm ?_)
  refine wc_cond (b := (!(validSet a)) || (!(validSet b))) rfl (fun hc34 => ?_) (fun hc34 => ?_)
  · have hinv : ¬ (validSet a = true ∧ validSet b = true) := by intro h; rw [h.1, h.2] at hc34; cases hc34
    refine wc_seq ?_
    refine wc_region ?_
    refine wl_op rfl (op_assign rfl rfl ?_)
    refine wl_op rfl (op_assign rfl rfl ?_)
    refine wl_op rfl (op_assign rfl rfl ?_)
    refine (wl_done (then_norm ?_))
    refine wc_ret ?_
    refine (then_ret ?_)
    have hB35 : Below w.heap.size w W32 := (below_step (Below.refl _ _) hW33)
    refine ⟨[_, _, _], ⟨rfl, rfl, rfl, trivial⟩, ⟨none, 0, 0, ?_, (by rw [agree, if_neg hinv]; exact rd_nil _ _ _), hB35⟩⟩
    rw [agree, if_neg hinv]
    rfl
  · have hval : validSet a = true ∧ validSet b = true := by simpa using hc34
    obtain ⟨hva, hvb⟩ := hval
    refine wc_skip ?_
    refine (then_norm ?_)
    refine wc_seq ?_
    refine wc_region ?_
    refine wl_op rfl (op_move rfl rfl ?_)
    have hB36 : Below w.heap.size w W32 := (below_step (Below.refl _ _) hW33)
    refine wl_op rfl (op_call ent47 rfl (rpart_spec (hs.ext (flat_lifts _) hB36) (by omega)) rfl ?_)
    rintro _ W41 ⟨A137, n138, c139, rfl, hp40, hE42⟩
    rw [part_calls hva] at hp40
    refine wl_op rfl (op_move rfl rfl ?_)
    have hB43 : Below w.heap.size w W41 := (below_step hB36 hE42)
    refine wl_op rfl (op_call ent47 rfl (rpart_spec (hs2.ext (flat_lifts _) hB43) (by omega)) rfl ?_)
    rintro _ W48 ⟨A144, n145, c146, rfl, hp47, hE49⟩
    rw [part_calls hvb] at hp47
    refine wl_op rfl (op_assign rfl rfl ?_)
    refine wl_op rfl (op_assign rfl rfl ?_)
    refine (wl_done (then_norm ?_))
    refine WC.sub [(4, .slice none 0 0), (5, .int .i64 0), (6, .int .i64 0), (7, .slice A137 n138 c139), (8, .slice A144 n145 c146)] ⟨rfl, rfl, rfl, rfl, rfl, trivial⟩ ?_
    refine wc_seq ?_
    refine wc_region ?_
    refine wl_op rfl (op_move rfl rfl ?_)
    have hB50 : Below W41.heap.size W41 W48 := (below_step (Below.refl _ _) hE49)
    refine wl_op rfl (op_call ent48 rfl (rvalue_spec (hp40.ext (flat_lifts _) hB50)) rfl ?_)
    rintro _ W51 ⟨rfl, hE52⟩
    refine wl_op rfl (op_assign rfl rfl ?_)
    refine (wl_done (then_norm ?_))
    refine wc_seq ?_
    refine wc_seq ?_
    refine wc_region ?_
    refine wl_op rfl (op_move rfl rfl ?_)
    refine wl_op rfl (op_move rfl rfl ?_)
    have hB53 : Below W48.heap.size W48 W51 := (below_step (Below.refl _ _) hE52)
    refine wl_op rfl (op_call ent48 rfl (rvalue_spec (hp47.ext (flat_lifts _) hB53)) rfl ?_)
    rintro _ W54 ⟨rfl, hE55⟩
    refine wl_op rfl (op_gtr rfl rfl rfl ?_)
    refine (wl_done (then_norm ?_))
    refine wc_cond (b := decide (valueOf (agC b) 11 < valueOf (agC a) 11)) rfl (fun hc56 => ?_) (fun hc56 => ?_)
    · have hc56r := hc56
      have hc56 := of_decide_eq_true hc56
      refine wc_seq ?_
      refine wc_region ?_
      refine wl_op rfl (op_assign rfl rfl ?_)
      refine wl_op rfl (op_assign rfl rfl ?_)
      refine wl_op rfl (op_assign rfl rfl ?_)
      refine (wl_done (then_norm ?_))
      refine WC.sub [(4, .slice none 0 0), (5, .int .i64 11), (6, .int .i64 9), (7, .slice A137 n138 c139), (8, .slice A144 n145 c146), (9, .int .i64 (valueOf (agC a) 11))] ⟨rfl, rfl, rfl, rfl, rfl, rfl, trivial⟩ ?_
      refine wc_ret ?_
      refine (then_ret ?_)
      have hB57 : Below w.heap.size w W54 := (below_step (below_step (below_step hB43 hE49) hE52) hE55)
      have hag := agree_route hva hvb hc56
      refine ⟨[_, _, _], ⟨rfl, rfl, rfl, trivial⟩, ⟨none, 0, 0, ?_, (by rw [hag]; exact rd_nil _ _ _), hB57⟩⟩
      rw [hag]
      rfl
    · have hc56r := hc56
      have hc56 := of_decide_eq_false hc56
      refine wc_skip ?_
      refine (then_norm ?_)
      refine WC.sub [(4, .slice none 0 0), (5, .int .i64 0), (6, .int .i64 0), (7, .slice A137 n138 c139), (8, .slice A144 n145 c146), (9, .int .i64 (valueOf (agC a) 11))] ⟨rfl, rfl, rfl, rfl, rfl, rfl, trivial⟩ ?_
      refine wc_seq ?_
      refine wc_region ?_
      refine wl_op rfl (op_move rfl rfl ?_)
      have hB58 : Below W41.heap.size W41 W54 := (below_step (below_step hB50 hE52) hE55)
      refine wl_op rfl (op_call ent48 rfl (rvalue_spec (hp40.ext (flat_lifts _) hB58)) rfl ?_)
      rintro _ W59 ⟨rfl, hE60⟩
      refine wl_op rfl (op_assign rfl rfl ?_)
      refine (wl_done (then_norm ?_))
      refine wc_join (fun l' w' => ∃ (x : Int), Sub [(4, .slice none 0 0), (5, .int .i64 0), (6, .int .i64 0), (7, .slice A137 n138 c139), (8, .slice A144 n145 c146), (9, .int .i64 (valueOf (agC a) 11)), (10, .int .i64 x)] l' ∧ Below W59.heap.size W59 w' ∧ (x = limitOf (agC a) (agC b))) ?_ ?_
      · refine wc_seq ?_
        refine wc_region ?_
        refine wl_op rfl (op_move rfl rfl ?_)
        have hB62 : Below W48.heap.size W48 W59 := (below_step (below_step hB53 hE55) hE60)
        refine wl_op rfl (op_call ent48 rfl (rvalue_spec (hp47.ext (flat_lifts _) hB62)) rfl ?_)
        rintro _ W63 ⟨rfl, hE64⟩
        refine wl_op rfl (op_assign rfl rfl ?_)
        refine (wl_done (then_norm ?_))
        refine wc_seq ?_
        refine wc_text [(4, .slice none 0 0), (5, .int .i64 0), (6, .int .i64 0), (7, .slice A137 n138 c139), (8, .slice A144 n145 c146), (9, .int .i64 (valueOf (agC a) 11)), (10, .int .i64 (valueOf (agC a) 10)), (11, .int .i64 (valueOf (agC b) 10))] ⟨rfl, rfl, rfl, rfl, rfl, rfl, rfl, rfl, trivial⟩ [fun v _ => v = .int .i64 (valueOf (agC a) 10), fun v _ => v = .bool (decide (valueOf (agC a) 10 = 0)), fun v _ => v = .bool (decide (valueOf (agC a) 10 = 0)), fun v _ => v = (bif (!(decide (valueOf (agC a) 10 = 0))) then (.int .i64 (valueOf (agC b) 10)) else undef), fun v _ => v = (bif (!(decide (valueOf (agC a) 10 = 0))) then (.bool (!decide (valueOf (agC b) 10 = 0))) else undef), fun v _ => v = (bif (!(decide (valueOf (agC a) 10 = 0))) then (.bool (!decide (valueOf (agC b) 10 = 0))) else undef), fun v _ => v = (bif ((!(decide (valueOf (agC a) 10 = 0))) && (!decide (valueOf (agC b) 10 = 0))) then (.int .i64 (valueOf (agC b) 10)) else undef), fun v _ => v = (bif ((!(decide (valueOf (agC a) 10 = 0))) && (!decide (valueOf (agC b) 10 = 0))) then (.int .i64 (valueOf (agC a) 10)) else undef), fun v _ => v = (bif ((!(decide (valueOf (agC a) 10 = 0))) && (!decide (valueOf (agC b) 10 = 0))) then (.bool (decide (valueOf (agC b) 10 < valueOf (agC a) 10))) else undef), fun v _ => v = (bif (!(decide (valueOf (agC a) 10 = 0))) then (.bool ((!decide (valueOf (agC b) 10 = 0)) && (decide (valueOf (agC b) 10 < valueOf (agC a) 10)))) else undef), fun v _ => v = .bool ((decide (valueOf (agC a) 10 = 0)) || ((!decide (valueOf (agC b) 10 = 0)) && (decide (valueOf (agC b) 10 < valueOf (agC a) 10))))] [[], [0], [1], [2], [2, 3], [2, 4], [5], [5], [5, 6, 7], [2, 5, 8], [2, 9]] [10] rfl rfl rfl ⟨fun _ _ _ _ h => h, fun _ _ _ _ h => h, fun _ _ _ _ h => h, fun _ _ _ _ h => h, fun _ _ _ _ h => h, fun _ _ _ _ h => h, fun _ _ _ _ h => h, fun _ _ _ _ h => h, fun _ _ _ _ h => h, fun _ _ _ _ h => h, fun _ _ _ _ h => h, trivial⟩ ⟨?_, ?_, ?_, ?_, ?_, ?_, ?_, ?_, ?_, ?_, ?_, trivial⟩ ?_
        · intro W65 hW66
          refine gather_nil ?_
          refine opg_none rfl ?_
          exact op_move rfl rfl ⟨told rfl rfl rfl, (Below.refl _ _)⟩
        · intro W65 hW66
          rintro _ rfl
          refine gather_nil ?_
          refine opg_none rfl ?_
          exact op_eql rfl rfl rfl ⟨told rfl rfl rfl, (Below.refl _ _)⟩
        · intro W65 hW66
          rintro _ rfl
          refine gather_nil ?_
          refine opg_none rfl ?_
          exact op_move rfl rfl ⟨told rfl rfl rfl, (Below.refl _ _)⟩
        · intro W65 hW66
          rintro _ rfl
          refine gather_nil ?_
          refine opg_f1 rfl rfl (fun hg67 => ?_) (fun h => by rw [h, cond_false])
          exact op_move rfl rfl ⟨told rfl rfl (by rw [hg67, cond_true]), (Below.refl _ _)⟩
        · intro W65 hW66
          rintro _ rfl
          intro v68 (hv69 : v68 = bif (!(decide (valueOf (agC a) 10 = 0))) then (.int .i64 (valueOf (agC b) 10)) else undef)
          refine gather_nil ?_
          refine opg_f1 rfl rfl (fun hg70 => ?_) (fun h => by rw [h, cond_false])
          have hd71 := of_decide_eq_false (not_t hg70)
          obtain rfl : v68 = .int .i64 (valueOf (agC b) 10) := by rw [hv69, hg70, cond_true]
          exact op_neq rfl rfl rfl ⟨told rfl rfl (by rw [hg70, cond_true]), (Below.refl _ _)⟩
        · intro W65 hW66
          rintro _ rfl
          intro v72 (hv73 : v72 = bif (!(decide (valueOf (agC a) 10 = 0))) then (.bool (!decide (valueOf (agC b) 10 = 0))) else undef)
          refine gather_nil ?_
          refine opg_f1 rfl rfl (fun hg74 => ?_) (fun h => by rw [h, cond_false])
          obtain rfl : v72 = .bool (!decide (valueOf (agC b) 10 = 0)) := by rw [hv73, hg74, cond_true]
          exact op_move rfl rfl ⟨told rfl rfl (by rw [hg74, cond_true]), (Below.refl _ _)⟩
        · intro W65 hW66
          intro v75 (hv76 : v75 = bif (!(decide (valueOf (agC a) 10 = 0))) then (.bool (!decide (valueOf (agC b) 10 = 0))) else undef)
          refine gather_nil ?_
          refine opg_t rfl rfl hv76 (fun hg77 => ?_) (fun h => by rw [h, cond_false])
          obtain rfl : v75 = .bool (!decide (valueOf (agC b) 10 = 0)) := by rw [hv76, (and_l hg77), cond_true]
          exact op_move rfl rfl ⟨told rfl rfl (by rw [hg77, cond_true]), (Below.refl _ _)⟩
        · intro W65 hW66
          intro v78 (hv79 : v78 = bif (!(decide (valueOf (agC a) 10 = 0))) then (.bool (!decide (valueOf (agC b) 10 = 0))) else undef)
          refine gather_nil ?_
          refine opg_t rfl rfl hv79 (fun hg80 => ?_) (fun h => by rw [h, cond_false])
          obtain rfl : v78 = .bool (!decide (valueOf (agC b) 10 = 0)) := by rw [hv79, (and_l hg80), cond_true]
          exact op_move rfl rfl ⟨told rfl rfl (by rw [hg80, cond_true]), (Below.refl _ _)⟩
        · intro W65 hW66
          intro v81 (hv82 : v81 = bif (!(decide (valueOf (agC a) 10 = 0))) then (.bool (!decide (valueOf (agC b) 10 = 0))) else undef)
          intro v83 (hv84 : v83 = bif ((!(decide (valueOf (agC a) 10 = 0))) && (!decide (valueOf (agC b) 10 = 0))) then (.int .i64 (valueOf (agC b) 10)) else undef)
          intro v85 (hv86 : v85 = bif ((!(decide (valueOf (agC a) 10 = 0))) && (!decide (valueOf (agC b) 10 = 0))) then (.int .i64 (valueOf (agC a) 10)) else undef)
          refine gather_nil ?_
          refine opg_t rfl rfl hv82 (fun hg87 => ?_) (fun h => by rw [h, cond_false])
          have hd88 := of_decide_eq_false (not_t (and_l hg87))
          have hd89 := of_decide_eq_false (not_t (and_r hg87))
          obtain rfl : v81 = .bool (!decide (valueOf (agC b) 10 = 0)) := by rw [hv82, (and_l hg87), cond_true]
          obtain rfl : v83 = .int .i64 (valueOf (agC b) 10) := by rw [hv84, hg87, cond_true]
          obtain rfl : v85 = .int .i64 (valueOf (agC a) 10) := by rw [hv86, hg87, cond_true]
          exact op_lss rfl rfl rfl ⟨told rfl rfl (by rw [hg87, cond_true]), (Below.refl _ _)⟩
        · intro W65 hW66
          rintro _ rfl
          intro v90 (hv91 : v90 = bif (!(decide (valueOf (agC a) 10 = 0))) then (.bool (!decide (valueOf (agC b) 10 = 0))) else undef)
          intro v92 (hv93 : v92 = bif ((!(decide (valueOf (agC a) 10 = 0))) && (!decide (valueOf (agC b) 10 = 0))) then (.bool (decide (valueOf (agC b) 10 < valueOf (agC a) 10))) else undef)
          refine gather_nil ?_
          refine opg_f1 rfl rfl (fun hg94 => ?_) (fun h => by rw [h, cond_false])
          obtain rfl : v90 = .bool (!decide (valueOf (agC b) 10 = 0)) := by rw [hv91, hg94, cond_true]
          exact op_and rfl rfl rfl (fun h => by rw [hv93, (and_i hg94 h), cond_true]) rfl ⟨told rfl rfl (by rw [hg94, cond_true]), (Below.refl _ _)⟩
        · intro W65 hW66
          rintro _ rfl
          intro v95 (hv96 : v95 = bif (!(decide (valueOf (agC a) 10 = 0))) then (.bool ((!decide (valueOf (agC b) 10 = 0)) && (decide (valueOf (agC b) 10 < valueOf (agC a) 10)))) else undef)
          refine gather_nil ?_
          refine opg_none rfl ?_
          exact op_or rfl rfl rfl (fun h => by rw [hv96, (not_i h), cond_true]) rfl ⟨told rfl rfl rfl, (Below.refl _ _)⟩
        intro W97 hW98
        rintro _ rfl
        refine gather_nil ?_
        refine (then_norm ?_)
        refine wc_cond (b := (decide (valueOf (agC a) 10 = 0)) || ((!decide (valueOf (agC b) 10 = 0)) && (decide (valueOf (agC b) 10 < valueOf (agC a) 10)))) rfl (fun hc99 => ?_) (fun hc99 => ?_)
        · refine wc_region ?_
          refine wl_op rfl (op_move rfl rfl ?_)
          refine wl_op rfl (op_assign rfl rfl ?_)
          refine (wl_done (then_norm ?_))
          have hB100 : Below W59.heap.size W59 W97 := (below_step (below_step (Below.refl _ _) hE64) hW98)
          exact ⟨valueOf (agC b) 10, ⟨rfl, rfl, rfl, rfl, rfl, rfl, rfl, trivial⟩, hB100, (lim_rt hc99 (val_rng hvb 10 rfl).1)⟩
        · refine wc_skip ?_
          refine (then_norm ?_)
          have hB101 : Below W59.heap.size W59 W97 := (below_step (below_step (Below.refl _ _) hE64) hW98)
          exact ⟨valueOf (agC a) 10, ⟨rfl, rfl, rfl, rfl, rfl, rfl, rfl, trivial⟩, hB101, (lim_rf hc99)⟩
      · rintro l' W61 ⟨x, hsub, hE102, rfl⟩
        refine WC.sub _ hsub ?_
        refine wc_seq ?_
        refine wc_region ?_
        refine wl_op rfl (op_move rfl rfl ?_)
        have hB103 : Below W41.heap.size W41 W61 := (below_step (below_step hB58 hE60) hE102)
        refine wl_op rfl (op_call ent48 rfl (rvalue_spec (hp40.ext (flat_lifts _) hB103)) rfl ?_)
        rintro _ W104 ⟨rfl, hE105⟩
        refine wl_op rfl (op_assign rfl rfl ?_)
        refine (wl_done (then_norm ?_))
        refine wc_join (fun l' w' => ∃ (x : Int), Sub [(4, .slice none 0 0), (5, .int .i64 0), (6, .int .i64 0), (7, .slice A137 n138 c139), (8, .slice A144 n145 c146), (9, .int .i64 (valueOf (agC a) 11)), (10, .int .i64 (limitOf (agC a) (agC b))), (12, .int .i64 x)] l' ∧ Below W104.heap.size W104 w' ∧ (x = prioOf (agC a) (agC b))) ?_ ?_
        · refine wc_seq ?_
          refine wc_region ?_
          refine wl_op rfl (op_move rfl rfl ?_)
          have hB107 : Below W48.heap.size W48 W104 := (below_step (below_step (below_step (below_step hB53 hE55) hE60) hE102) hE105)
          refine wl_op rfl (op_call ent49 rfl (rhas_spec (hp47.ext (flat_lifts _) hB107)) rfl ?_)
          rintro _ W108 ⟨rfl, hE109⟩
          refine (wl_done (then_norm ?_))
          refine wc_cond (b := (agC b).any (fun p => decide (p.kind = 12))) rfl (fun hc110 => ?_) (fun hc110 => ?_)
          · refine wc_region ?_
            refine wl_op rfl (op_move rfl rfl ?_)
            refine wl_op rfl (op_move rfl rfl ?_)
            have hB111 : Below W48.heap.size W48 W108 := (below_step hB107 hE109)
            refine wl_op rfl (op_call ent48 rfl (rvalue_spec (hp47.ext (flat_lifts _) hB111)) rfl ?_)
            rintro _ W112 ⟨rfl, hE113⟩
            refine wl_op rfl (op_min rfl rfl rfl rfl ?_)
            refine wl_op rfl (op_assign rfl rfl ?_)
            refine (wl_done (then_norm ?_))
            have hB114 : Below W104.heap.size W104 W112 := (below_step (below_step (Below.refl _ _) hE109) hE113)
            exact ⟨(if valueOf (agC b) 12 < valueOf (agC a) 12 then valueOf (agC b) 12 else valueOf (agC a) 12), ⟨rfl, rfl, rfl, rfl, rfl, rfl, rfl, rfl, trivial⟩, hB114, (by unfold prioOf; rw [if_pos hc110])⟩
          · refine wc_skip ?_
            refine (then_norm ?_)
            have hB115 : Below W104.heap.size W104 W108 := (below_step (Below.refl _ _) hE109)
            exact ⟨valueOf (agC a) 12, ⟨rfl, rfl, rfl, rfl, rfl, rfl, rfl, rfl, trivial⟩, hB115, (by unfold prioOf; rw [if_neg (fun h => by rw [show hasPrio (agC b) = false from hc110] at h; cases h)])⟩
        · rintro l' W106 ⟨x, hsub, hE116, rfl⟩
          refine WC.sub _ hsub ?_
          refine wc_seq ?_
          refine wc_region ?_
          refine wl_op rfl (op_move rfl rfl ?_)
          have hB117 : Below W41.heap.size W41 W106 := (below_step (below_step hB103 hE105) hE116)
          refine wl_op rfl (op_call ent48 rfl (rvalue_spec (hp40.ext (flat_lifts _) hB117)) rfl ?_)
          rintro _ W118 ⟨rfl, hE119⟩
          refine wl_op rfl (op_assign rfl rfl ?_)
          refine (wl_done (then_norm ?_))
          refine wc_join (fun l' w' => ∃ (x : Int), Sub [(4, .slice none 0 0), (5, .int .i64 0), (6, .int .i64 0), (7, .slice A137 n138 c139), (8, .slice A144 n145 c146), (9, .int .i64 (valueOf (agC a) 11)), (10, .int .i64 (limitOf (agC a) (agC b))), (12, .int .i64 (prioOf (agC a) (agC b))), (13, .int .i64 x)] l' ∧ Below W118.heap.size W118 w' ∧ (x = orderOf (agC a) (agC b))) ?_ ?_
          · refine wc_seq ?_
            refine wc_region ?_
            refine wl_op rfl (op_move rfl rfl ?_)
            refine wl_op rfl (op_eql rfl rfl rfl ?_)
            refine (wl_done (then_norm ?_))
            refine wc_cond (b := decide (valueOf (agC a) 13 = 1)) rfl (fun hc121 => ?_) (fun hc121 => ?_)
            · have hc121r := hc121
              have hc121 := of_decide_eq_true hc121
              refine wc_region ?_
              refine wl_op rfl (op_move rfl rfl ?_)
              have hB122 : Below W48.heap.size W48 W118 := (below_step (below_step (below_step (below_step (below_step (below_step hB53 hE55) hE60) hE102) hE105) hE116) hE119)
              refine wl_op rfl (op_call ent48 rfl (rvalue_spec (hp47.ext (flat_lifts _) hB122)) rfl ?_)
              rintro _ W123 ⟨rfl, hE124⟩
              refine wl_op rfl (op_assign rfl rfl ?_)
              refine (wl_done (then_norm ?_))
              have hB125 : Below W118.heap.size W118 W123 := (below_step (Below.refl _ _) hE124)
              exact ⟨valueOf (agC b) 13, ⟨rfl, rfl, rfl, rfl, rfl, rfl, rfl, rfl, rfl, trivial⟩, hB125, (by unfold orderOf; rw [if_pos hc121])⟩
            · have hc121r := hc121
              have hc121 := of_decide_eq_false hc121
              refine wc_skip ?_
              refine (then_norm ?_)
              exact ⟨valueOf (agC a) 13, ⟨rfl, rfl, rfl, rfl, rfl, rfl, rfl, rfl, rfl, trivial⟩, (Below.refl _ _), (by unfold orderOf; rw [if_neg hc121])⟩
          · rintro l' W120 ⟨x, hsub, hE126, rfl⟩
            refine WC.sub _ hsub ?_
            refine wc_seq ?_
            refine wc_region ?_
            refine wl_op rfl (op_move rfl rfl ?_)
            have hB127 : Below W41.heap.size W41 W120 := (below_step (below_step hB117 hE119) hE126)
            refine wl_op rfl (op_call ent48 rfl (rvalue_spec (hp40.ext (flat_lifts _) hB127)) rfl ?_)
            rintro _ W128 ⟨rfl, hE129⟩
            refine wl_op rfl (op_move rfl rfl ?_)
            have hB130 : Below W48.heap.size W48 W128 := (below_step (below_step (below_step (below_step (below_step (below_step (below_step (below_step hB53 hE55) hE60) hE102) hE105) hE116) hE119) hE126) hE129)
            refine wl_op rfl (op_call ent48 rfl (rvalue_spec (hp47.ext (flat_lifts _) hB130)) rfl ?_)
            rintro _ W131 ⟨rfl, hE132⟩
            refine wl_op rfl (op_call ent50 rfl (rstronger_spec) rfl ?_)
            rintro _ W133 ⟨rfl, hE134⟩
            refine wl_op rfl (op_build (v := .agg #[.int .i64 8, .int .i64 (if strengthR 8 (valueOf (agC a) 8) < strengthR 8 (valueOf (agC b) 8) then (valueOf (agC b) 8) else (valueOf (agC a) 8))]) rfl (fun w => by kernel_rfl) rfl ?_)
            refine wl_op rfl (op_move rfl rfl ?_)
            have hB135 : Below W41.heap.size W41 W133 := (below_step (below_step (below_step hB127 hE129) hE132) hE134)
            refine wl_op rfl (op_call ent48 rfl (rvalue_spec (hp40.ext (flat_lifts _) hB135)) rfl ?_)
            rintro _ W136 ⟨rfl, hE137⟩
            refine wl_op rfl (op_move rfl rfl ?_)
            have hB138 : Below W48.heap.size W48 W136 := (below_step (below_step (below_step hB130 hE132) hE134) hE137)
            refine wl_op rfl (op_call ent48 rfl (rvalue_spec (hp47.ext (flat_lifts _) hB138)) rfl ?_)
            rintro _ W139 ⟨rfl, hE140⟩
            refine wl_op rfl (op_call ent50 rfl (rstronger_spec) rfl ?_)
            rintro _ W141 ⟨rfl, hE142⟩
            refine wl_op rfl (op_build (v := .agg #[.int .i64 9, .int .i64 (if strengthR 9 (valueOf (agC a) 9) < strengthR 9 (valueOf (agC b) 9) then (valueOf (agC b) 9) else (valueOf (agC a) 9))]) rfl (fun w => by kernel_rfl) rfl ?_)
            refine wl_op rfl (op_move rfl rfl ?_)
            refine wl_op rfl (op_build (v := .agg #[.int .i64 10, .int .i64 (limitOf (agC a) (agC b))]) rfl (fun w => by kernel_rfl) rfl ?_)
            refine wl_op rfl (op_move rfl rfl ?_)
            refine wl_op rfl (op_build (v := .agg #[.int .i64 11, .int .i64 (valueOf (agC a) 11)]) rfl (fun w => by kernel_rfl) rfl ?_)
            refine wl_op rfl (op_move rfl rfl ?_)
            refine wl_op rfl (op_build (v := .agg #[.int .i64 12, .int .i64 (prioOf (agC a) (agC b))]) rfl (fun w => by kernel_rfl) rfl ?_)
            refine wl_op rfl (op_move rfl rfl ?_)
            refine wl_op rfl (op_build (v := .agg #[.int .i64 13, .int .i64 (orderOf (agC a) (agC b))]) rfl (fun w => by kernel_rfl) rfl ?_)
            refine wl_op rfl (op_buildSlice (cs := #[.int .i64 8, .int .i64 (if strengthR 8 (valueOf (agC a) 8) < strengthR 8 (valueOf (agC b) 8) then (valueOf (agC b) 8) else (valueOf (agC a) 8)), .int .i64 9, .int .i64 (if strengthR 9 (valueOf (agC a) 9) < strengthR 9 (valueOf (agC b) 9) then (valueOf (agC b) 9) else (valueOf (agC a) 9)), .int .i64 10, .int .i64 (limitOf (agC a) (agC b)), .int .i64 11, .int .i64 (valueOf (agC a) 11), .int .i64 12, .int .i64 (prioOf (agC a) (agC b)), .int .i64 13, .int .i64 (orderOf (agC a) (agC b))]) (e := 46) rfl (fun w => by kernel_rfl) rfl ?_)
            intro W143 b144 hN145
            have hb146 : W143.heap[b144]? = some (.cells #[.int .i64 8, .int .i64 (if strengthR 8 (valueOf (agC a) 8) < strengthR 8 (valueOf (agC b) 8) then (valueOf (agC b) 8) else (valueOf (agC a) 8)), .int .i64 9, .int .i64 (if strengthR 9 (valueOf (agC a) 9) < strengthR 9 (valueOf (agC b) 9) then (valueOf (agC b) 9) else (valueOf (agC a) 9)), .int .i64 10, .int .i64 (limitOf (agC a) (agC b)), .int .i64 11, .int .i64 (valueOf (agC a) 11), .int .i64 12, .int .i64 (prioOf (agC a) (agC b)), .int .i64 13, .int .i64 (orderOf (agC a) (agC b))] 46 (0, 0)) := hN145.blk
            refine wl_op rfl (op_assign rfl rfl ?_)
            refine (wl_done (then_norm ?_))
            refine WC.sub [(4, .slice none 0 0), (5, .int .i64 0), (6, .int .i64 0), (14, .slice (some ⟨b144, 0, none⟩) 6 6)] ⟨rfl, rfl, rfl, rfl, trivial⟩ ?_
            refine wc_seq ?_
            refine wc_seq ?_
            refine wc_region ?_
            refine wl_op rfl (op_move rfl rfl ?_)
            refine wl_op rfl (op_call ent41 rfl (rclashes_spec (rd_of_blk (enc := encP) [(⟨8, if strengthR 8 (valueOf (agC a) 8) < strengthR 8 (valueOf (agC b) 8) then (valueOf (agC b) 8) else (valueOf (agC a) 8)⟩ : Pol), (⟨9, if strengthR 9 (valueOf (agC a) 9) < strengthR 9 (valueOf (agC b) 9) then (valueOf (agC b) 9) else (valueOf (agC a) 9)⟩ : Pol), (⟨10, limitOf (agC a) (agC b)⟩ : Pol), (⟨11, valueOf (agC a) 11⟩ : Pol), (⟨12, prioOf (agC a) (agC b)⟩ : Pol), (⟨13, orderOf (agC a) (agC b)⟩ : Pol)] hb146 (fun _ => rfl) rfl rfl rfl) (val_rng hva 11 rfl).1) rfl ?_)
            rintro _ W151 ⟨A1147, n1148, c1149, rfl, hp150, hE152⟩
            have hout : ([(⟨8, if strengthR 8 (valueOf (agC a) 8) < strengthR 8 (valueOf (agC b) 8) then (valueOf (agC b) 8) else (valueOf (agC a) 8)⟩ : Pol), (⟨9, if strengthR 9 (valueOf (agC a) 9) < strengthR 9 (valueOf (agC b) 9) then (valueOf (agC b) 9) else (valueOf (agC a) 9)⟩ : Pol), (⟨10, limitOf (agC a) (agC b)⟩ : Pol), (⟨11, valueOf (agC a) 11⟩ : Pol), (⟨12, prioOf (agC a) (agC b)⟩ : Pol), (⟨13, orderOf (agC a) (agC b)⟩ : Pol)] : List Pol) = agreed (agC a) (agC b) := by rw [cert_eq hva hvb]; rfl
            rw [hout] at hp150
            have hlen1 := hp150.len
            refine wl_op rfl (op_assign rfl rfl ?_)
            refine (wl_done (then_norm ?_))
            refine wc_seq ?_
            refine wc_region ?_
            refine wl_op rfl (op_move rfl rfl ?_)
            refine wl_op rfl (op_len_slice rfl rfl und25 rfl rfl ?_)
            refine wl_op rfl (op_gtr rfl rfl rfl ?_)
            refine (wl_done (then_norm ?_))
            refine wc_cond (b := decide (0 < ((n1148 : Nat) : Int))) rfl (fun hc153 => ?_) (fun hc153 => ?_)
            · have hc153r := hc153
              have hc153 := of_decide_eq_true hc153
              refine wc_seq ?_
              obtain ⟨bs156, os157, hA158, hc159⟩ := hp150.flat
              have hln160 := hp150.len
              have hbd161 := hp150.bd
              obtain ⟨x_hp150_0, hx_hp150_0⟩ : ∃ x, (clashList (agreed (agC a) (agC b)))[0]? = some x := ⟨_, List.getElem?_eq_getElem (by have := hp150.len; omega)⟩
              refine wc_draw mixed [(14, .slice (some ⟨b144, 0, none⟩) 6 6), (15, .slice A1147 n1148 c1149)] ⟨rfl, rfl, trivial⟩ [fun v _ => v = .slice A1147 n1148 c1149, fun v _ => v = .pointer (some ⟨bs156, os157 + 0 * 2, none⟩), fun v _ => v = .pointer (some ⟨bs156, os157 + 0 * 2 + 0 * 1, none⟩), fun v _ => v = .int .i64 x_hp150_0.1, fun v _ => v = .slice none 0 0, fun v _ => v = .int .i64 x_hp150_0.1, fun v _ => v = .int .i64 9] [[], [0], [1], [2], [], [3], []] [4, 5, 6] rfl rfl rfl ⟨fun _ _ _ _ h => h, fun _ _ _ _ h => h, fun _ _ _ _ h => h, fun _ _ _ _ h => h, fun _ _ _ _ h => h, fun _ _ _ _ h => h, fun _ _ _ _ h => h, trivial⟩ ⟨?_, ?_, ?_, ?_, ?_, ?_, ?_, trivial⟩ ?_
              · intro W154 hW155
                refine gather_nil ?_
                refine opg_none rfl ?_
                exact op_move rfl rfl ⟨told rfl rfl rfl, (Below.refl _ _)⟩
              · intro W154 hW155
                rintro _ rfl
                refine gather_nil ?_
                refine opg_none rfl ?_
                exact op_indexAddr (j := 0) rfl rfl und25 sz29 (hA158 (by omega)) rfl (by omega) rfl ⟨told rfl rfl rfl, (Below.refl _ _)⟩
              · intro W154 hW155
                rintro _ rfl
                refine gather_nil ?_
                refine opg_none rfl ?_
                exact op_indexArr (j := 0) rfl rfl und29 sz3 rfl (by omega) rfl ⟨told rfl rfl rfl, (Below.refl _ _)⟩
              · intro W154 hW155
                rintro _ rfl
                refine gather_nil ?_
                refine opg_none rfl ?_
                have hB163 : Below W151.heap.size W151 W154 := (below_step (Below.refl _ _) hW155)
                exact op_load1 (v := .int .i64 x_hp150_0.1) rfl agg3 (((hc159 0 x_hp150_0 hx_hp150_0).ext hB163).at (i := 0) rfl) rfl ⟨told rfl rfl rfl, (Below.refl _ _)⟩
              · intro W154 hW155
                refine gather_nil ?_
                refine opg_none rfl ?_
                exact op_assign rfl rfl ⟨told rfl rfl rfl, (Below.refl _ _)⟩
              · intro W154 hW155
                rintro _ rfl
                refine gather_nil ?_
                refine opg_none rfl ?_
                exact op_assign rfl rfl ⟨told rfl rfl rfl, (Below.refl _ _)⟩
              · intro W154 hW155
                refine gather_nil ?_
                refine opg_none rfl ?_
                exact op_assign rfl rfl ⟨told rfl rfl rfl, (Below.refl _ _)⟩
              intro W164 hW165
              rintro _ rfl
              rintro _ rfl
              rintro _ rfl
              refine gather_nil ?_
              refine (then_norm ?_)
              refine wc_ret ?_
              refine (then_ret ?_)
              have hB166 : Below w.heap.size w W164 := (below_step (below_step (below_new (below_step (below_step (below_step (below_step (below_step (below_step (below_step (below_step (below_step (below_step (below_step (below_step (below_step (below_step (below_step hB43 hE49) hE52) hE55) hE60) hE102) hE105) hE116) hE119) hE126) hE129) hE132) hE134) hE137) hE140) hE142) hN145) hE152) hW165)
              have hag := agree_clash_r hva hvb hc56 hx_hp150_0
              refine ⟨[_, _, _], ⟨rfl, rfl, rfl, trivial⟩, ⟨none, 0, 0, ?_, (by rw [hag]; exact rd_nil _ _ _), hB166⟩⟩
              rw [hag]
              rfl
            · have hc153r := hc153
              have hc153 := of_decide_eq_false hc153
              refine wc_skip ?_
              refine (then_norm ?_)
              refine WC.sub [(4, .slice none 0 0), (5, .int .i64 0), (6, .int .i64 0), (14, .slice (some ⟨b144, 0, none⟩) 6 6)] ⟨rfl, rfl, rfl, rfl, trivial⟩ ?_
              refine wc_seq ?_
              refine wc_region ?_
              refine wl_op rfl (op_move rfl rfl ?_)
              have hb167 : W151.heap[b144]? = some (.cells #[.int .i64 8, .int .i64 (if strengthR 8 (valueOf (agC a) 8) < strengthR 8 (valueOf (agC b) 8) then (valueOf (agC b) 8) else (valueOf (agC a) 8)), .int .i64 9, .int .i64 (if strengthR 9 (valueOf (agC a) 9) < strengthR 9 (valueOf (agC b) 9) then (valueOf (agC b) 9) else (valueOf (agC a) 9)), .int .i64 10, .int .i64 (limitOf (agC a) (agC b)), .int .i64 11, .int .i64 (valueOf (agC a) 11), .int .i64 12, .int .i64 (prioOf (agC a) (agC b)), .int .i64 13, .int .i64 (orderOf (agC a) (agC b))] 46 (0, 0)) := (blk_ext hb146 hE152)
              refine wl_op rfl (op_call ent51 rfl (rplain_spec (rd_of_blk (enc := encP) [(⟨8, if strengthR 8 (valueOf (agC a) 8) < strengthR 8 (valueOf (agC b) 8) then (valueOf (agC b) 8) else (valueOf (agC a) 8)⟩ : Pol), (⟨9, if strengthR 9 (valueOf (agC a) 9) < strengthR 9 (valueOf (agC b) 9) then (valueOf (agC b) 9) else (valueOf (agC a) 9)⟩ : Pol), (⟨10, limitOf (agC a) (agC b)⟩ : Pol), (⟨11, valueOf (agC a) 11⟩ : Pol), (⟨12, prioOf (agC a) (agC b)⟩ : Pol), (⟨13, orderOf (agC a) (agC b)⟩ : Pol)] hb167 (fun _ => rfl) rfl rfl rfl) (by omega)) rfl ?_)
              rintro _ W172 ⟨A1168, n1169, c1170, rfl, hp171, hE173⟩
              rw [hout] at hp171
              refine wl_op rfl (op_assign rfl rfl ?_)
              refine wl_op rfl (op_assign rfl rfl ?_)
              refine wl_op rfl (op_assign rfl rfl ?_)
              refine (wl_done (then_norm ?_))
              refine wc_ret ?_
              have hB174 : Below w.heap.size w W172 := (below_step (below_step (below_new (below_step (below_step (below_step (below_step (below_step (below_step (below_step (below_step (below_step (below_step (below_step (below_step (below_step (below_step (below_step hB43 hE49) hE52) hE55) hE60) hE102) hE105) hE116) hE119) hE126) hE129) hE132) hE134) hE137) hE140) hE142) hN145) hE152) hE173)
              have hag := agree_fine_r hva hvb hc56 (by omega)
              refine ⟨[_, _, _], ⟨rfl, rfl, rfl, trivial⟩, ⟨A1168, n1169, c1170, ?_, (by rw [hag]; exact hp171), hB174⟩⟩
              rw [hag]
              rfl

end Go.Eng
