/- Lemmas for a law of the seat: what functions of the program do, each stated as a contract of its own (S2). -/
import Derived.Test.YtbjafckcpkhoaaaS1
import Derived.Test.YtbjafckcpkhoaaaChecked
set_option linter.unusedVariables false
set_option maxRecDepth 100000
namespace Go.Eng
open Go.RowKit Go.Shelf Go.Proofs Pol

theorem ent36 : Enters Try.prog 36 := enters_of Try.func36 (by kernel_rfl) rfl
theorem ent42 : Enters Try.prog 42 := enters_of Try.func42 (by kernel_rfl) rfl
theorem ent43 : Enters Try.prog 43 := enters_of Try.func43 (by kernel_rfl) rfl
theorem ent44 : Enters Try.prog 44 := enters_of Try.func44 (by kernel_rfl) rfl
theorem sz3 : Sz Try.prog 3 1 := fun w => by kernel_rfl
theorem ent45 : Enters Try.prog 45 := enters_of Try.func45 (by kernel_rfl) rfl
theorem ent46 : Enters Try.prog 46 := enters_of Try.func46 (by kernel_rfl) rfl
theorem ent8 : Enters Try.prog 8 := enters_of Try.func8 (by kernel_rfl) rfl
theorem und25 : Und Try.prog 25 (.slice 29) := by unfold Und; kernel_rfl
theorem sz29 : Sz Try.prog 29 2 := fun w => by kernel_rfl
theorem und29 : Und Try.prog 29 (.array 2 3) := by unfold Und; kernel_rfl
theorem ent21 : Enters Try.prog 21 := enters_of Try.func21 (by kernel_rfl) rfl

abbrev agC (a : List Pol) : List Pol := chosenL a keepCalls
def rebindOf (c s : List Pol) : Int := if valueOf c 8 < valueOf s 8 then valueOf s 8 else valueOf c 8
def certOf (c s : List Pol) : Int := if strengthI (valueOf c 9) < strengthI (valueOf s 9) then valueOf s 9 else valueOf c 9
def limitOf (c s : List Pol) : Int := if 0 < valueOf s 10 ∧ (valueOf c 10 = 0 ∨ valueOf s 10 < valueOf c 10) then valueOf s 10 else valueOf c 10
abbrev hasPrio (s : List Pol) : Bool := s.any (fun p => decide (p.kind = 12))
def prioOf (c s : List Pol) : Int := if hasPrio s = true then (if valueOf s 12 < valueOf c 12 then valueOf s 12 else valueOf c 12) else valueOf c 12
def orderOf (c s : List Pol) : Int := if valueOf c 13 = 1 then valueOf s 13 else valueOf c 13
def agreed (c s : List Pol) : List Pol := [⟨8, rebindOf c s⟩, ⟨9, certOf c s⟩, ⟨10, limitOf c s⟩, ⟨11, valueOf c 11⟩, ⟨12, prioOf c s⟩, ⟨13, orderOf c s⟩]
def agree (a b : List Pol) : List Pol × Int × Int :=
  if validSet a = true ∧ validSet b = true then
    if valueOf (agC b) 11 < valueOf (agC a) 11 then ([], 11, 9)
    else match clashL (agreed (agC a) (agC b)) with
      | q :: _ => ([], q.1, 9)
      | [] => (chosenL (agreed (agC a) (agC b)) keepPlain, 0, chosenE (agreed (agC a) (agC b)))
  else ([], 0, 1)
theorem chosenE_0 {s : List Pol} : chosenE s = 0 ↔ validSet s = true := by
  unfold chosenE; split <;> simp_all
theorem asc_filter {s : List Pol} (h : Asc s) (f : Pol → Bool) : Asc (s.filter f) := by
  have hp : List.Pairwise (fun x y : Pol => x.kind < y.kind) s := by
    rw [List.pairwise_iff_getElem]
    intro i j hi hj hij
    exact h.up i j _ _ hij (List.getElem?_eq_getElem hi) (List.getElem?_eq_getElem hj)
  have hf := hp.filter f
  rw [List.pairwise_iff_getElem] at hf
  refine ⟨fun i x hx => ?_, fun i j x y hij hx hy => ?_⟩
  · have hm := List.mem_of_getElem? hx
    rw [List.mem_filter] at hm
    obtain ⟨j, hj, rfl⟩ := List.getElem_of_mem hm.1
    exact h.lo j _ (List.getElem?_eq_getElem hj)
  · obtain ⟨hi, rfl⟩ := List.getElem?_eq_some_iff.1 hx
    obtain ⟨hj, rfl⟩ := List.getElem?_eq_some_iff.1 hy
    exact hf i j hi hj hij
theorem asc_chosen {s : List Pol} (hv : validSet s = true) (f : Pol → Bool) : Asc (chosenL s f) := by
  unfold chosenL; rw [if_pos hv]; exact asc_filter (valid_asc hv) f
theorem valueOf_rng {s : List Pol} (h : ∀ p, p ∈ s → validB p = true) {k : Int} (h1 : 1 ≤ k) (h2 : k ≤ 13) : leastI k ≤ valueOf s k ∧ valueOf s k ≤ mostI k := by
  unfold valueOf
  cases hf : s.find? (fun p => decide (p.kind = k)) with
  | none =>
    simp only []
    refine ⟨Int.le_refl _, ?_⟩
    unfold leastI mostI
    repeat' split
    all_goals omega
  | some p =>
    have h3 := List.find?_some hf
    have h4 := h p (List.mem_of_find?_eq_some hf)
    have h5 : p.kind = k := by simpa using h3
    have h6 := valid_val h4
    rw [h5] at h6
    exact h6
theorem chosen_valid {s : List Pol} (hv : validSet s = true) (f : Pol → Bool) : ∀ p, p ∈ chosenL s f → validB p = true := by
  intro p hp
  unfold chosenL at hp
  rw [if_pos hv, List.mem_filter] at hp
  exact mem_valid hv hp.1
theorem rng9 {a b : List Pol} (ha : validSet a = true) (hb : validSet b = true) {x : Int} (h : x = valueOf (agC a) 9 ∨ x = valueOf (agC b) 9) : 0 ≤ x ∧ x ≤ 4 := by
  have h1 := valueOf_rng (chosen_valid ha keepCalls) (k := 9) (by decide) (by decide)
  have h2 := valueOf_rng (chosen_valid hb keepCalls) (k := 9) (by decide) (by decide)
  have e1 : leastI 9 = 1 := by decide
  have e2 : mostI 9 = 4 := by decide
  rw [e1, e2] at h1 h2
  unfold agC at h
  omega
theorem lim_t {a b c : Prop} [Decidable a] [Decidable b] [Decidable c] (h : (decide a && (decide b || decide c)) = true) : a ∧ (b ∨ c) := by simpa using h
theorem lim_f {a b c : Prop} [Decidable a] [Decidable b] [Decidable c] (h : (decide a && (decide b || decide c)) = false) : ¬ (a ∧ (b ∨ c)) := fun k => by
  have : (decide a && (decide b || decide c)) = true := by simpa using k
  rw [h] at this; cases this
theorem agree_route {a b : List Pol} (hva : validSet a = true) (hvb : validSet b = true) (h : valueOf (agC b) 11 < valueOf (agC a) 11) : agree a b = ([], 11, 9) := by
  rw [agree, if_pos ⟨hva, hvb⟩, if_pos h]
theorem agree_clash {a b : List Pol} (hva : validSet a = true) (hvb : validSet b = true) (h : ¬ valueOf (agC b) 11 < valueOf (agC a) 11) {q : Int × Int} (hq : (clashL (agreed (agC a) (agC b)))[0]? = some q) : agree a b = ([], q.1, 9) := by
  rw [agree, if_pos ⟨hva, hvb⟩, if_neg h]
  cases hl : clashL (agreed (agC a) (agC b)) with
  | nil => rw [hl] at hq; cases hq
  | cons p r => rw [hl] at hq; cases hq; rfl
theorem agree_fine {a b : List Pol} (hva : validSet a = true) (hvb : validSet b = true) (h : ¬ valueOf (agC b) 11 < valueOf (agC a) 11) (hq : (clashL (agreed (agC a) (agC b))).length = 0) :
    agree a b = (chosenL (agreed (agC a) (agC b)) keepPlain, 0, chosenE (agreed (agC a) (agC b))) := by
  rw [agree, if_pos ⟨hva, hvb⟩, if_neg h]
  rw [List.eq_nil_of_length_eq_zero hq]

theorem Agree_spec {w : World} {A : Option Addr} {n c : Nat} {a : List Pol} {A2 : Option Addr} {n2 c2 : Nat} {b : List Pol} (hs : RdP w A n a) (hs2 : RdP w A2 n2 b) (hn : n ≤ 1000) (hn2 : n2 ≤ 1000) : Ret Try.prog 10 #[.slice A n c, .slice A2 n2 c2] w (fun v w' => ∃ (A1 : Option Addr) (n1 c1 : Nat), v = .tuple #[.slice A1 n1 c1, .int .i64 ((agree a b).2.1), .int .i64 ((agree a b).2.2)] ∧ RdP w' A1 n1 (agree a b).1 ∧ Below w.heap.size w w') := by
  obtain ⟨bs1, os2, hA3, hc4⟩ := hs.flat
  have hln5 := hs.len
  have hbd6 := hs.bd
  have hlen_a := hs.len
  obtain ⟨bs7, os8, hA9, hc10⟩ := hs2.flat
  have hln11 := hs2.len
  have hbd12 := hs2.bd
  have hlen_b := hs2.len
  refine ret_of (args := [.slice A n c, .slice A2 n2 c2]) Try.func10 rfl Try.ntmps10 rfl (rs := [.tmp 4, .tmp 5, .tmp 6]) rfl ?_
  refine wc_seq ?_
  refine wc_region ?_
  refine wl_op rfl (op_assign rfl rfl ?_)
  refine wl_op rfl (op_assign rfl rfl ?_)
  refine wl_op rfl (op_assign rfl rfl ?_)
  refine (wl_done (then_norm ?_))
  refine wc_seq ?_
  refine wc_region ?_
  refine wl_op rfl (op_move rfl rfl ?_)
  refine wl_op rfl (op_call ent36 rfl (Calls_spec hs hn) rfl ?_)
  rintro _ W17 ⟨A113, n114, c115, rfl, hp16, hE18⟩
  refine wl_op rfl (op_move rfl rfl ?_)
  refine wl_op rfl (op_extract (v := .slice A113 n114 c115) rfl rfl rfl ?_)
  refine wl_op rfl (op_extract (v := .int .i64 (chosenE a)) rfl rfl rfl ?_)
  refine wl_op rfl (op_assign rfl rfl ?_)
  refine wl_op rfl (op_assign rfl rfl ?_)
  refine (wl_done (then_norm ?_))
  refine WC.sub [(1, .slice A2 n2 c2), (4, .slice none 0 0), (5, .int .i64 0), (6, .int .i64 0), (7, .slice A113 n114 c115), (8, .int .i64 (chosenE a))] ⟨rfl, rfl, rfl, rfl, rfl, rfl, trivial⟩ ?_
  refine wc_seq ?_
  refine wc_region ?_
  refine wl_op rfl (op_move rfl rfl ?_)
  have hB19 : Below w.heap.size w W17 := (below_step (Below.refl _ _) hE18)
  refine wl_op rfl (op_call ent36 rfl (Calls_spec (hs2.ext (flat_lifts _) hB19) hn2) rfl ?_)
  rintro _ W24 ⟨A120, n121, c122, rfl, hp23, hE25⟩
  refine wl_op rfl (op_move rfl rfl ?_)
  refine wl_op rfl (op_extract (v := .slice A120 n121 c122) rfl rfl rfl ?_)
  refine wl_op rfl (op_extract (v := .int .i64 (chosenE b)) rfl rfl rfl ?_)
  refine wl_op rfl (op_assign rfl rfl ?_)
  refine wl_op rfl (op_assign rfl rfl ?_)
  refine (wl_done (then_norm ?_))
  refine WC.sub [(4, .slice none 0 0), (5, .int .i64 0), (6, .int .i64 0), (7, .slice A113 n114 c115), (8, .int .i64 (chosenE a)), (9, .slice A120 n121 c122), (10, .int .i64 (chosenE b))] ⟨rfl, rfl, rfl, rfl, rfl, rfl, rfl, trivial⟩ ?_
  refine wc_seq ?_
  refine wc_seq ?_
  refine wc_text [(4, .slice none 0 0), (5, .int .i64 0), (6, .int .i64 0), (7, .slice A113 n114 c115), (8, .int .i64 (chosenE a)), (9, .slice A120 n121 c122), (10, .int .i64 (chosenE b))] ⟨rfl, rfl, rfl, rfl, rfl, rfl, rfl, trivial⟩ [fun v _ => v = .int .i64 (chosenE a), fun v _ => v = .bool (!decide (chosenE a = 0)), fun v _ => v = .bool (!decide (chosenE a = 0)), fun v _ => v = (bif (!(!decide (chosenE a = 0))) then (.int .i64 (chosenE b)) else undef), fun v _ => v = (bif (!(!decide (chosenE a = 0))) then (.bool (!decide (chosenE b = 0))) else undef), fun v _ => v = .bool ((!decide (chosenE a = 0)) || (!decide (chosenE b = 0)))] [[], [0], [1], [2], [2, 3], [2, 4]] [5] rfl rfl rfl ⟨fun _ _ _ _ h => h, fun _ _ _ _ h => h, fun _ _ _ _ h => h, fun _ _ _ _ h => h, fun _ _ _ _ h => h, fun _ _ _ _ h => h, trivial⟩ ⟨?_, ?_, ?_, ?_, ?_, ?_, trivial⟩ ?_
  · intro W26 hW27
    refine gather_nil ?_
    refine opg_none rfl ?_
    exact op_move rfl rfl ⟨told rfl rfl rfl, (Below.refl _ _)⟩
  · intro W26 hW27
    rintro _ rfl
    refine gather_nil ?_
    refine opg_none rfl ?_
    exact op_neq rfl rfl rfl ⟨told rfl rfl rfl, (Below.refl _ _)⟩
  · intro W26 hW27
    rintro _ rfl
    refine gather_nil ?_
    refine opg_none rfl ?_
    exact op_move rfl rfl ⟨told rfl rfl rfl, (Below.refl _ _)⟩
  · intro W26 hW27
    rintro _ rfl
    refine gather_nil ?_
    refine opg_f1 rfl rfl (fun hg28 => ?_) (fun h => by rw [h, cond_false])
    exact op_move rfl rfl ⟨told rfl rfl (by rw [hg28, cond_true]), (Below.refl _ _)⟩
  · intro W26 hW27
    rintro _ rfl
    intro v29 (hv30 : v29 = bif (!(!decide (chosenE a = 0))) then (.int .i64 (chosenE b)) else undef)
    refine gather_nil ?_
    refine opg_f1 rfl rfl (fun hg31 => ?_) (fun h => by rw [h, cond_false])
    obtain rfl : v29 = .int .i64 (chosenE b) := by rw [hv30, hg31, cond_true]
    exact op_neq rfl rfl rfl ⟨told rfl rfl (by rw [hg31, cond_true]), (Below.refl _ _)⟩
  · intro W26 hW27
    rintro _ rfl
    intro v32 (hv33 : v32 = bif (!(!decide (chosenE a = 0))) then (.bool (!decide (chosenE b = 0))) else undef)
    refine gather_nil ?_
    refine opg_none rfl ?_
    exact op_or rfl rfl rfl (fun h => by rw [hv33, (not_i h), cond_true]) rfl ⟨told rfl rfl rfl, (Below.refl _ _)⟩
  intro W34 hW35
  rintro _ rfl
  refine gather_nil ?_
  refine (then_norm ?_)
  refine wc_cond (b := (!decide (chosenE a = 0)) || (!decide (chosenE b = 0))) rfl (fun hc36 => ?_) (fun hc36 => ?_)
  · have hinv : ¬ (validSet a = true ∧ validSet b = true) := by rw [← chosenE_0, ← chosenE_0]; intro h; rw [h.1, h.2] at hc36; cases hc36
    refine wc_seq ?_
    refine wc_region ?_
    refine wl_op rfl (op_assign rfl rfl ?_)
    refine wl_op rfl (op_assign rfl rfl ?_)
    refine wl_op rfl (op_assign rfl rfl ?_)
    refine (wl_done (then_norm ?_))
    refine wc_ret ?_
    refine (then_ret ?_)
    have hB37 : Below w.heap.size w W34 := (below_step (below_step hB19 hE25) hW35)
    refine ⟨[_, _, _], ⟨rfl, rfl, rfl, trivial⟩, ⟨none, 0, 0, ?_, (by rw [agree, if_neg hinv]; exact rd_nil _ _ _), hB37⟩⟩
    rw [agree, if_neg hinv]
    rfl
  · have hval : validSet a = true ∧ validSet b = true := by rw [← chosenE_0, ← chosenE_0]; simpa using hc36
    obtain ⟨hva, hvb⟩ := hval
    refine wc_skip ?_
    refine (then_norm ?_)
    refine wc_seq ?_
    refine wc_region ?_
    refine wl_op rfl (op_move rfl rfl ?_)
    have hB38 : Below W17.heap.size W17 W34 := (below_step (below_step (Below.refl _ _) hE25) hW35)
    refine wl_op rfl (op_call ent40 rfl (value_spec (hp16.ext (flat_lifts _) hB38) (asc_chosen hva _) (by omega) (by omega)) rfl ?_)
    rintro _ W39 ⟨rfl, hE40⟩
    refine wl_op rfl (op_move rfl rfl ?_)
    have hB41 : Below W24.heap.size W24 W39 := (below_step (below_step (Below.refl _ _) hW35) hE40)
    refine wl_op rfl (op_call ent40 rfl (value_spec (hp23.ext (flat_lifts _) hB41) (asc_chosen hvb _) (by omega) (by omega)) rfl ?_)
    rintro _ W42 ⟨rfl, hE43⟩
    refine wl_op rfl (op_call ent42 rfl (greater_spec ent43 (fun W x hx hW => Agree1_spec) (f := fun x => x)) rfl ?_)
    rintro _ W44 ⟨rfl, hE45⟩
    refine wl_op rfl (op_build (v := .agg #[.int .i64 8, .int .i64 (if (fun x => x) (valueOf (chosenL a keepCalls) 8) < (fun x => x) (valueOf (chosenL b keepCalls) 8) then (valueOf (chosenL b keepCalls) 8) else (valueOf (chosenL a keepCalls) 8))]) rfl (fun w => by kernel_rfl) rfl ?_)
    refine wl_op rfl (op_move rfl rfl ?_)
    have hB46 : Below W17.heap.size W17 W44 := (below_step (below_step (below_step hB38 hE40) hE43) hE45)
    refine wl_op rfl (op_call ent40 rfl (value_spec (hp16.ext (flat_lifts _) hB46) (asc_chosen hva _) (by omega) (by omega)) rfl ?_)
    rintro _ W47 ⟨rfl, hE48⟩
    refine wl_op rfl (op_move rfl rfl ?_)
    have hB49 : Below W24.heap.size W24 W47 := (below_step (below_step (below_step hB41 hE43) hE45) hE48)
    refine wl_op rfl (op_call ent40 rfl (value_spec (hp23.ext (flat_lifts _) hB49) (asc_chosen hvb _) (by omega) (by omega)) rfl ?_)
    rintro _ W50 ⟨rfl, hE51⟩
    refine wl_op rfl (op_call ent42 rfl (greater_spec ent44 (fun W x hx hW => strength_spec (rng9 hva hvb hx).1 (rng9 hva hvb hx).2) (f := strengthI)) rfl ?_)
    rintro _ W52 ⟨rfl, hE53⟩
    refine wl_op rfl (op_build (v := .agg #[.int .i64 9, .int .i64 (if strengthI (valueOf (chosenL a keepCalls) 9) < strengthI (valueOf (chosenL b keepCalls) 9) then (valueOf (chosenL b keepCalls) 9) else (valueOf (chosenL a keepCalls) 9))]) rfl (fun w => by kernel_rfl) rfl ?_)
    refine wl_op rfl (op_move rfl rfl ?_)
    have hB54 : Below W17.heap.size W17 W52 := (below_step (below_step (below_step hB46 hE48) hE51) hE53)
    refine wl_op rfl (op_call ent40 rfl (value_spec (hp16.ext (flat_lifts _) hB54) (asc_chosen hva _) (by omega) (by omega)) rfl ?_)
    rintro _ W55 ⟨rfl, hE56⟩
    refine wl_op rfl (op_build (v := .agg #[.int .i64 10, .int .i64 (valueOf (chosenL a keepCalls) 10)]) rfl (fun w => by kernel_rfl) rfl ?_)
    refine wl_op rfl (op_move rfl rfl ?_)
    have hB57 : Below W17.heap.size W17 W55 := (below_step hB54 hE56)
    refine wl_op rfl (op_call ent40 rfl (value_spec (hp16.ext (flat_lifts _) hB57) (asc_chosen hva _) (by omega) (by omega)) rfl ?_)
    rintro _ W58 ⟨rfl, hE59⟩
    refine wl_op rfl (op_build (v := .agg #[.int .i64 11, .int .i64 (valueOf (chosenL a keepCalls) 11)]) rfl (fun w => by kernel_rfl) rfl ?_)
    refine wl_op rfl (op_move rfl rfl ?_)
    have hB60 : Below W17.heap.size W17 W58 := (below_step hB57 hE59)
    refine wl_op rfl (op_call ent40 rfl (value_spec (hp16.ext (flat_lifts _) hB60) (asc_chosen hva _) (by omega) (by omega)) rfl ?_)
    rintro _ W61 ⟨rfl, hE62⟩
    refine wl_op rfl (op_build (v := .agg #[.int .i64 12, .int .i64 (valueOf (chosenL a keepCalls) 12)]) rfl (fun w => by kernel_rfl) rfl ?_)
    refine wl_op rfl (op_move rfl rfl ?_)
    have hB63 : Below W17.heap.size W17 W61 := (below_step hB60 hE62)
    refine wl_op rfl (op_call ent40 rfl (value_spec (hp16.ext (flat_lifts _) hB63) (asc_chosen hva _) (by omega) (by omega)) rfl ?_)
    rintro _ W64 ⟨rfl, hE65⟩
    refine wl_op rfl (op_build (v := .agg #[.int .i64 13, .int .i64 (valueOf (chosenL a keepCalls) 13)]) rfl (fun w => by kernel_rfl) rfl ?_)
    refine wl_op rfl (op_buildSlice (cs := #[.int .i64 8, .int .i64 (if (fun x => x) (valueOf (chosenL a keepCalls) 8) < (fun x => x) (valueOf (chosenL b keepCalls) 8) then (valueOf (chosenL b keepCalls) 8) else (valueOf (chosenL a keepCalls) 8)), .int .i64 9, .int .i64 (if strengthI (valueOf (chosenL a keepCalls) 9) < strengthI (valueOf (chosenL b keepCalls) 9) then (valueOf (chosenL b keepCalls) 9) else (valueOf (chosenL a keepCalls) 9)), .int .i64 10, .int .i64 (valueOf (chosenL a keepCalls) 10), .int .i64 11, .int .i64 (valueOf (chosenL a keepCalls) 11), .int .i64 12, .int .i64 (valueOf (chosenL a keepCalls) 12), .int .i64 13, .int .i64 (valueOf (chosenL a keepCalls) 13)]) (e := 46) rfl (fun w => by kernel_rfl) rfl ?_)
    intro W66 b67 hN68
    have hb69 : W66.heap[b67]? = some (.cells #[.int .i64 8, .int .i64 (if (fun x => x) (valueOf (chosenL a keepCalls) 8) < (fun x => x) (valueOf (chosenL b keepCalls) 8) then (valueOf (chosenL b keepCalls) 8) else (valueOf (chosenL a keepCalls) 8)), .int .i64 9, .int .i64 (if strengthI (valueOf (chosenL a keepCalls) 9) < strengthI (valueOf (chosenL b keepCalls) 9) then (valueOf (chosenL b keepCalls) 9) else (valueOf (chosenL a keepCalls) 9)), .int .i64 10, .int .i64 (valueOf (chosenL a keepCalls) 10), .int .i64 11, .int .i64 (valueOf (chosenL a keepCalls) 11), .int .i64 12, .int .i64 (valueOf (chosenL a keepCalls) 12), .int .i64 13, .int .i64 (valueOf (chosenL a keepCalls) 13)] 46 (0, 0)) := hN68.blk
    refine wl_op rfl (op_assign rfl rfl ?_)
    refine (wl_done (then_norm ?_))
    refine WC.sub [(4, .slice none 0 0), (5, .int .i64 0), (6, .int .i64 0), (8, .int .i64 (chosenE a)), (9, .slice A120 n121 c122), (11, .slice (some ⟨b67, 0, none⟩) 6 6)] ⟨rfl, rfl, rfl, rfl, rfl, rfl, trivial⟩ ?_
    refine wc_join (fun l' w' => Sub [(4, .slice none 0 0), (5, .int .i64 0), (6, .int .i64 0), (8, .int .i64 (chosenE a)), (9, .slice A120 n121 c122), (11, .slice (some ⟨b67, 0, none⟩) 6 6)] l' ∧ Below W64.heap.size W64 w' ∧ w'.heap[b67]? = some (.cells #[.int .i64 8, .int .i64 (if (fun x => x) (valueOf (chosenL a keepCalls) 8) < (fun x => x) (valueOf (chosenL b keepCalls) 8) then (valueOf (chosenL b keepCalls) 8) else (valueOf (chosenL a keepCalls) 8)), .int .i64 9, .int .i64 (if strengthI (valueOf (chosenL a keepCalls) 9) < strengthI (valueOf (chosenL b keepCalls) 9) then (valueOf (chosenL b keepCalls) 9) else (valueOf (chosenL a keepCalls) 9)), .int .i64 10, .int .i64 (limitOf (agC a) (agC b)), .int .i64 11, .int .i64 (valueOf (chosenL a keepCalls) 11), .int .i64 12, .int .i64 (valueOf (chosenL a keepCalls) 12), .int .i64 13, .int .i64 (valueOf (chosenL a keepCalls) 13)] 46 (0, 0))) ?_ ?_
    · refine wc_seq ?_
      refine wc_region ?_
      refine wl_op rfl (op_move rfl rfl ?_)
      have hB71 : Below W24.heap.size W24 W66 := (below_new (below_step (below_step (below_step (below_step (below_step (below_step hB49 hE51) hE53) hE56) hE59) hE62) hE65) hN68)
      refine wl_op rfl (op_call ent40 rfl (value_spec (hp23.ext (flat_lifts _) hB71) (asc_chosen hvb _) (by omega) (by omega)) rfl ?_)
      rintro _ W72 ⟨rfl, hE73⟩
      refine wl_op rfl (op_assign rfl rfl ?_)
      refine (wl_done (then_norm ?_))
      refine wc_seq ?_
      refine wc_text [(4, .slice none 0 0), (5, .int .i64 0), (6, .int .i64 0), (8, .int .i64 (chosenE a)), (9, .slice A120 n121 c122), (11, .slice (some ⟨b67, 0, none⟩) 6 6), (12, .int .i64 (valueOf (chosenL b keepCalls) 10))] ⟨rfl, rfl, rfl, rfl, rfl, rfl, rfl, trivial⟩ [fun v _ => v = .int .i64 (valueOf (chosenL b keepCalls) 10), fun v _ => v = .bool (decide (0 < valueOf (chosenL b keepCalls) 10)), fun v _ => v = .bool (decide (0 < valueOf (chosenL b keepCalls) 10)), fun v _ => v = (bif (decide (0 < valueOf (chosenL b keepCalls) 10)) then (.slice (some ⟨b67, 0, none⟩) 6 6) else undef), fun v _ => v = (bif (decide (0 < valueOf (chosenL b keepCalls) 10)) then (.pointer (some ⟨b67, 4, none⟩)) else undef), fun v _ => v = (bif (decide (0 < valueOf (chosenL b keepCalls) 10)) then (.pointer (some ⟨b67, 4 + 1, none⟩)) else undef), fun v _ => v = (bif (decide (0 < valueOf (chosenL b keepCalls) 10)) then (.int .i64 (valueOf (chosenL a keepCalls) 10)) else undef), fun v _ => v = (bif (decide (0 < valueOf (chosenL b keepCalls) 10)) then (.bool (decide (valueOf (chosenL a keepCalls) 10 = 0))) else undef), fun v _ => v = (bif (decide (0 < valueOf (chosenL b keepCalls) 10)) then (.bool (decide (valueOf (chosenL a keepCalls) 10 = 0))) else undef), fun v _ => v = (bif ((decide (0 < valueOf (chosenL b keepCalls) 10)) && (!(decide (valueOf (chosenL a keepCalls) 10 = 0)))) then (.int .i64 (valueOf (chosenL b keepCalls) 10)) else undef), fun v _ => v = (bif ((decide (0 < valueOf (chosenL b keepCalls) 10)) && (!(decide (valueOf (chosenL a keepCalls) 10 = 0)))) then (.slice (some ⟨b67, 0, none⟩) 6 6) else undef), fun v _ => v = (bif ((decide (0 < valueOf (chosenL b keepCalls) 10)) && (!(decide (valueOf (chosenL a keepCalls) 10 = 0)))) then (.pointer (some ⟨b67, 4, none⟩)) else undef), fun v _ => v = (bif ((decide (0 < valueOf (chosenL b keepCalls) 10)) && (!(decide (valueOf (chosenL a keepCalls) 10 = 0)))) then (.pointer (some ⟨b67, 4 + 1, none⟩)) else undef), fun v _ => v = (bif ((decide (0 < valueOf (chosenL b keepCalls) 10)) && (!(decide (valueOf (chosenL a keepCalls) 10 = 0)))) then (.int .i64 (valueOf (chosenL a keepCalls) 10)) else undef), fun v _ => v = (bif ((decide (0 < valueOf (chosenL b keepCalls) 10)) && (!(decide (valueOf (chosenL a keepCalls) 10 = 0)))) then (.bool (decide (valueOf (chosenL b keepCalls) 10 < valueOf (chosenL a keepCalls) 10))) else undef), fun v _ => v = (bif (decide (0 < valueOf (chosenL b keepCalls) 10)) then (.bool ((decide (valueOf (chosenL a keepCalls) 10 = 0)) || (decide (valueOf (chosenL b keepCalls) 10 < valueOf (chosenL a keepCalls) 10)))) else undef), fun v _ => v = .bool ((decide (0 < valueOf (chosenL b keepCalls) 10)) && ((decide (valueOf (chosenL a keepCalls) 10 = 0)) || (decide (valueOf (chosenL b keepCalls) 10 < valueOf (chosenL a keepCalls) 10))))] [[], [0], [1], [2], [2, 3], [2, 4], [2, 5], [2, 6], [2, 7], [8], [8], [8, 10], [8, 11], [8, 12], [8, 9, 13], [2, 8, 14], [2, 15]] [16] rfl rfl rfl ⟨fun _ _ _ _ h => h, fun _ _ _ _ h => h, fun _ _ _ _ h => h, fun _ _ _ _ h => h, fun _ _ _ _ h => h, fun _ _ _ _ h => h, fun _ _ _ _ h => h, fun _ _ _ _ h => h, fun _ _ _ _ h => h, fun _ _ _ _ h => h, fun _ _ _ _ h => h, fun _ _ _ _ h => h, fun _ _ _ _ h => h, fun _ _ _ _ h => h, fun _ _ _ _ h => h, fun _ _ _ _ h => h, fun _ _ _ _ h => h, trivial⟩ ⟨?_, ?_, ?_, ?_, ?_, ?_, ?_, ?_, ?_, ?_, ?_, ?_, ?_, ?_, ?_, ?_, ?_, trivial⟩ ?_
      · intro W74 hW75
        refine gather_nil ?_
        refine opg_none rfl ?_
        exact op_move rfl rfl ⟨told rfl rfl rfl, (Below.refl _ _)⟩
      · intro W74 hW75
        rintro _ rfl
        refine gather_nil ?_
        refine opg_none rfl ?_
        exact op_gtr rfl rfl rfl ⟨told rfl rfl rfl, (Below.refl _ _)⟩
      · intro W74 hW75
        rintro _ rfl
        refine gather_nil ?_
        refine opg_none rfl ?_
        exact op_move rfl rfl ⟨told rfl rfl rfl, (Below.refl _ _)⟩
      · intro W74 hW75
        rintro _ rfl
        refine gather_nil ?_
        refine opg_t1 rfl rfl (fun hg78 => ?_) (fun h => by rw [h, cond_false])
        exact op_move rfl rfl ⟨told rfl rfl (by rw [hg78, cond_true]), (Below.refl _ _)⟩
      · intro W74 hW75
        rintro _ rfl
        intro v79 (hv80 : v79 = bif (decide (0 < valueOf (chosenL b keepCalls) 10)) then (.slice (some ⟨b67, 0, none⟩) 6 6) else undef)
        refine gather_nil ?_
        refine opg_t1 rfl rfl (fun hg81 => ?_) (fun h => by rw [h, cond_false])
        have hd82 := of_decide_eq_true hg81
        obtain rfl : v79 = .slice (some ⟨b67, 0, none⟩) 6 6 := by rw [hv80, hg81, cond_true]
        exact op_indexAddr (b := b67) (o := 0) (j := 2) rfl rfl und22 sz46 rfl rfl (by omega) rfl ⟨told rfl rfl (by rw [hg81, cond_true]), (Below.refl _ _)⟩
      · intro W74 hW75
        rintro _ rfl
        intro v83 (hv84 : v83 = bif (decide (0 < valueOf (chosenL b keepCalls) 10)) then (.pointer (some ⟨b67, 4, none⟩)) else undef)
        refine gather_nil ?_
        refine opg_t1 rfl rfl (fun hg85 => ?_) (fun h => by rw [h, cond_false])
        obtain rfl : v83 = .pointer (some ⟨b67, 4, none⟩) := by rw [hv84, hg85, cond_true]
        exact op_fieldAddr rfl fa46_1 rfl ⟨told rfl rfl (by rw [hg85, cond_true]), (Below.refl _ _)⟩
      · intro W74 hW75
        rintro _ rfl
        intro v86 (hv87 : v86 = bif (decide (0 < valueOf (chosenL b keepCalls) 10)) then (.pointer (some ⟨b67, 4 + 1, none⟩)) else undef)
        refine gather_nil ?_
        refine opg_t1 rfl rfl (fun hg88 => ?_) (fun h => by rw [h, cond_false])
        have hd89 := of_decide_eq_true hg88
        obtain rfl : v86 = .pointer (some ⟨b67, 4 + 1, none⟩) := by rw [hv87, hg88, cond_true]
        have hb90 : W74.heap[b67]? = some (.cells #[.int .i64 8, .int .i64 (if (fun x => x) (valueOf (chosenL a keepCalls) 8) < (fun x => x) (valueOf (chosenL b keepCalls) 8) then (valueOf (chosenL b keepCalls) 8) else (valueOf (chosenL a keepCalls) 8)), .int .i64 9, .int .i64 (if strengthI (valueOf (chosenL a keepCalls) 9) < strengthI (valueOf (chosenL b keepCalls) 9) then (valueOf (chosenL b keepCalls) 9) else (valueOf (chosenL a keepCalls) 9)), .int .i64 10, .int .i64 (valueOf (chosenL a keepCalls) 10), .int .i64 11, .int .i64 (valueOf (chosenL a keepCalls) 11), .int .i64 12, .int .i64 (valueOf (chosenL a keepCalls) 12), .int .i64 13, .int .i64 (valueOf (chosenL a keepCalls) 13)] 46 (0, 0)) := (blk_ext (blk_ext hb69 hE73) hW75)
        exact op_load1 (v := .int .i64 (valueOf (chosenL a keepCalls) 10)) rfl agg3 (cell_blk hb90 rfl) rfl ⟨told rfl rfl (by rw [hg88, cond_true]), (Below.refl _ _)⟩
      · intro W74 hW75
        rintro _ rfl
        intro v91 (hv92 : v91 = bif (decide (0 < valueOf (chosenL b keepCalls) 10)) then (.int .i64 (valueOf (chosenL a keepCalls) 10)) else undef)
        refine gather_nil ?_
        refine opg_t1 rfl rfl (fun hg93 => ?_) (fun h => by rw [h, cond_false])
        have hd94 := of_decide_eq_true hg93
        obtain rfl : v91 = .int .i64 (valueOf (chosenL a keepCalls) 10) := by rw [hv92, hg93, cond_true]
        exact op_eql rfl rfl rfl ⟨told rfl rfl (by rw [hg93, cond_true]), (Below.refl _ _)⟩
      · intro W74 hW75
        rintro _ rfl
        intro v95 (hv96 : v95 = bif (decide (0 < valueOf (chosenL b keepCalls) 10)) then (.bool (decide (valueOf (chosenL a keepCalls) 10 = 0))) else undef)
        refine gather_nil ?_
        refine opg_t1 rfl rfl (fun hg97 => ?_) (fun h => by rw [h, cond_false])
        obtain rfl : v95 = .bool (decide (valueOf (chosenL a keepCalls) 10 = 0)) := by rw [hv96, hg97, cond_true]
        exact op_move rfl rfl ⟨told rfl rfl (by rw [hg97, cond_true]), (Below.refl _ _)⟩
      · intro W74 hW75
        intro v98 (hv99 : v98 = bif (decide (0 < valueOf (chosenL b keepCalls) 10)) then (.bool (decide (valueOf (chosenL a keepCalls) 10 = 0))) else undef)
        refine gather_nil ?_
        refine opg_f rfl rfl hv99 (fun hg100 => ?_) (fun h => by rw [h, cond_false])
        obtain rfl : v98 = .bool (decide (valueOf (chosenL a keepCalls) 10 = 0)) := by rw [hv99, (and_l hg100), cond_true]
        exact op_move rfl rfl ⟨told rfl rfl (by rw [hg100, cond_true]), (Below.refl _ _)⟩
      · intro W74 hW75
        intro v101 (hv102 : v101 = bif (decide (0 < valueOf (chosenL b keepCalls) 10)) then (.bool (decide (valueOf (chosenL a keepCalls) 10 = 0))) else undef)
        refine gather_nil ?_
        refine opg_f rfl rfl hv102 (fun hg103 => ?_) (fun h => by rw [h, cond_false])
        obtain rfl : v101 = .bool (decide (valueOf (chosenL a keepCalls) 10 = 0)) := by rw [hv102, (and_l hg103), cond_true]
        exact op_move rfl rfl ⟨told rfl rfl (by rw [hg103, cond_true]), (Below.refl _ _)⟩
      · intro W74 hW75
        intro v104 (hv105 : v104 = bif (decide (0 < valueOf (chosenL b keepCalls) 10)) then (.bool (decide (valueOf (chosenL a keepCalls) 10 = 0))) else undef)
        intro v106 (hv107 : v106 = bif ((decide (0 < valueOf (chosenL b keepCalls) 10)) && (!(decide (valueOf (chosenL a keepCalls) 10 = 0)))) then (.slice (some ⟨b67, 0, none⟩) 6 6) else undef)
        refine gather_nil ?_
        refine opg_f rfl rfl hv105 (fun hg108 => ?_) (fun h => by rw [h, cond_false])
        have hd109 := of_decide_eq_true (and_l hg108)
        have hd110 := of_decide_eq_false (not_t (and_r hg108))
        obtain rfl : v104 = .bool (decide (valueOf (chosenL a keepCalls) 10 = 0)) := by rw [hv105, (and_l hg108), cond_true]
        obtain rfl : v106 = .slice (some ⟨b67, 0, none⟩) 6 6 := by rw [hv107, hg108, cond_true]
        exact op_indexAddr (b := b67) (o := 0) (j := 2) rfl rfl und22 sz46 rfl rfl (by omega) rfl ⟨told rfl rfl (by rw [hg108, cond_true]), (Below.refl _ _)⟩
      · intro W74 hW75
        intro v111 (hv112 : v111 = bif (decide (0 < valueOf (chosenL b keepCalls) 10)) then (.bool (decide (valueOf (chosenL a keepCalls) 10 = 0))) else undef)
        intro v113 (hv114 : v113 = bif ((decide (0 < valueOf (chosenL b keepCalls) 10)) && (!(decide (valueOf (chosenL a keepCalls) 10 = 0)))) then (.pointer (some ⟨b67, 4, none⟩)) else undef)
        refine gather_nil ?_
        refine opg_f rfl rfl hv112 (fun hg115 => ?_) (fun h => by rw [h, cond_false])
        obtain rfl : v111 = .bool (decide (valueOf (chosenL a keepCalls) 10 = 0)) := by rw [hv112, (and_l hg115), cond_true]
        obtain rfl : v113 = .pointer (some ⟨b67, 4, none⟩) := by rw [hv114, hg115, cond_true]
        exact op_fieldAddr rfl fa46_1 rfl ⟨told rfl rfl (by rw [hg115, cond_true]), (Below.refl _ _)⟩
      · intro W74 hW75
        intro v116 (hv117 : v116 = bif (decide (0 < valueOf (chosenL b keepCalls) 10)) then (.bool (decide (valueOf (chosenL a keepCalls) 10 = 0))) else undef)
        intro v118 (hv119 : v118 = bif ((decide (0 < valueOf (chosenL b keepCalls) 10)) && (!(decide (valueOf (chosenL a keepCalls) 10 = 0)))) then (.pointer (some ⟨b67, 4 + 1, none⟩)) else undef)
        refine gather_nil ?_
        refine opg_f rfl rfl hv117 (fun hg120 => ?_) (fun h => by rw [h, cond_false])
        have hd121 := of_decide_eq_true (and_l hg120)
        have hd122 := of_decide_eq_false (not_t (and_r hg120))
        obtain rfl : v116 = .bool (decide (valueOf (chosenL a keepCalls) 10 = 0)) := by rw [hv117, (and_l hg120), cond_true]
        obtain rfl : v118 = .pointer (some ⟨b67, 4 + 1, none⟩) := by rw [hv119, hg120, cond_true]
        have hb123 : W74.heap[b67]? = some (.cells #[.int .i64 8, .int .i64 (if (fun x => x) (valueOf (chosenL a keepCalls) 8) < (fun x => x) (valueOf (chosenL b keepCalls) 8) then (valueOf (chosenL b keepCalls) 8) else (valueOf (chosenL a keepCalls) 8)), .int .i64 9, .int .i64 (if strengthI (valueOf (chosenL a keepCalls) 9) < strengthI (valueOf (chosenL b keepCalls) 9) then (valueOf (chosenL b keepCalls) 9) else (valueOf (chosenL a keepCalls) 9)), .int .i64 10, .int .i64 (valueOf (chosenL a keepCalls) 10), .int .i64 11, .int .i64 (valueOf (chosenL a keepCalls) 11), .int .i64 12, .int .i64 (valueOf (chosenL a keepCalls) 12), .int .i64 13, .int .i64 (valueOf (chosenL a keepCalls) 13)] 46 (0, 0)) := (blk_ext (blk_ext hb69 hE73) hW75)
        exact op_load1 (v := .int .i64 (valueOf (chosenL a keepCalls) 10)) rfl agg3 (cell_blk hb123 rfl) rfl ⟨told rfl rfl (by rw [hg120, cond_true]), (Below.refl _ _)⟩
      · intro W74 hW75
        intro v124 (hv125 : v124 = bif (decide (0 < valueOf (chosenL b keepCalls) 10)) then (.bool (decide (valueOf (chosenL a keepCalls) 10 = 0))) else undef)
        intro v126 (hv127 : v126 = bif ((decide (0 < valueOf (chosenL b keepCalls) 10)) && (!(decide (valueOf (chosenL a keepCalls) 10 = 0)))) then (.int .i64 (valueOf (chosenL b keepCalls) 10)) else undef)
        intro v128 (hv129 : v128 = bif ((decide (0 < valueOf (chosenL b keepCalls) 10)) && (!(decide (valueOf (chosenL a keepCalls) 10 = 0)))) then (.int .i64 (valueOf (chosenL a keepCalls) 10)) else undef)
        refine gather_nil ?_
        refine opg_f rfl rfl hv125 (fun hg130 => ?_) (fun h => by rw [h, cond_false])
        have hd131 := of_decide_eq_true (and_l hg130)
        have hd132 := of_decide_eq_false (not_t (and_r hg130))
        obtain rfl : v124 = .bool (decide (valueOf (chosenL a keepCalls) 10 = 0)) := by rw [hv125, (and_l hg130), cond_true]
        obtain rfl : v126 = .int .i64 (valueOf (chosenL b keepCalls) 10) := by rw [hv127, hg130, cond_true]
        obtain rfl : v128 = .int .i64 (valueOf (chosenL a keepCalls) 10) := by rw [hv129, hg130, cond_true]
        exact op_lss rfl rfl rfl ⟨told rfl rfl (by rw [hg130, cond_true]), (Below.refl _ _)⟩
      · intro W74 hW75
        rintro _ rfl
        intro v133 (hv134 : v133 = bif (decide (0 < valueOf (chosenL b keepCalls) 10)) then (.bool (decide (valueOf (chosenL a keepCalls) 10 = 0))) else undef)
        intro v135 (hv136 : v135 = bif ((decide (0 < valueOf (chosenL b keepCalls) 10)) && (!(decide (valueOf (chosenL a keepCalls) 10 = 0)))) then (.bool (decide (valueOf (chosenL b keepCalls) 10 < valueOf (chosenL a keepCalls) 10))) else undef)
        refine gather_nil ?_
        refine opg_t1 rfl rfl (fun hg137 => ?_) (fun h => by rw [h, cond_false])
        obtain rfl : v133 = .bool (decide (valueOf (chosenL a keepCalls) 10 = 0)) := by rw [hv134, hg137, cond_true]
        exact op_or rfl rfl rfl (fun h => by rw [hv136, (and_i hg137 (not_i h)), cond_true]) rfl ⟨told rfl rfl (by rw [hg137, cond_true]), (Below.refl _ _)⟩
      · intro W74 hW75
        rintro _ rfl
        intro v138 (hv139 : v138 = bif (decide (0 < valueOf (chosenL b keepCalls) 10)) then (.bool ((decide (valueOf (chosenL a keepCalls) 10 = 0)) || (decide (valueOf (chosenL b keepCalls) 10 < valueOf (chosenL a keepCalls) 10)))) else undef)
        refine gather_nil ?_
        refine opg_none rfl ?_
        exact op_and rfl rfl rfl (fun h => by rw [hv139, h, cond_true]) rfl ⟨told rfl rfl rfl, (Below.refl _ _)⟩
      intro W140 hW141
      rintro _ rfl
      refine gather_nil ?_
      refine (then_norm ?_)
      refine wc_cond (b := (decide (0 < valueOf (chosenL b keepCalls) 10)) && ((decide (valueOf (chosenL a keepCalls) 10 = 0)) || (decide (valueOf (chosenL b keepCalls) 10 < valueOf (chosenL a keepCalls) 10)))) rfl (fun hc142 => ?_) (fun hc142 => ?_)
      · refine wc_region ?_
        refine wl_op rfl (op_move rfl rfl ?_)
        refine wl_op rfl (op_move rfl rfl ?_)
        refine wl_op rfl (op_indexAddr (b := b67) (o := 0) (j := 2) rfl rfl und22 sz46 rfl rfl (by omega) rfl ?_)
        refine wl_op rfl (op_fieldAddr rfl fa46_1 rfl ?_)
        have hb143 : W140.heap[b67]? = some (.cells #[.int .i64 8, .int .i64 (if (fun x => x) (valueOf (chosenL a keepCalls) 8) < (fun x => x) (valueOf (chosenL b keepCalls) 8) then (valueOf (chosenL b keepCalls) 8) else (valueOf (chosenL a keepCalls) 8)), .int .i64 9, .int .i64 (if strengthI (valueOf (chosenL a keepCalls) 9) < strengthI (valueOf (chosenL b keepCalls) 9) then (valueOf (chosenL b keepCalls) 9) else (valueOf (chosenL a keepCalls) 9)), .int .i64 10, .int .i64 (valueOf (chosenL a keepCalls) 10), .int .i64 11, .int .i64 (valueOf (chosenL a keepCalls) 11), .int .i64 12, .int .i64 (valueOf (chosenL a keepCalls) 12), .int .i64 13, .int .i64 (valueOf (chosenL a keepCalls) 13)] 46 (0, 0)) := (blk_ext (blk_ext hb69 hE73) hW141)
        refine wl_op rfl (op_store rfl rfl sz3 hb143 rfl rfl ?_)
        intro W144 hP145 hb146
        have hb146 : W144.heap[b67]? = some (.cells #[.int .i64 8, .int .i64 (if (fun x => x) (valueOf (chosenL a keepCalls) 8) < (fun x => x) (valueOf (chosenL b keepCalls) 8) then (valueOf (chosenL b keepCalls) 8) else (valueOf (chosenL a keepCalls) 8)), .int .i64 9, .int .i64 (if strengthI (valueOf (chosenL a keepCalls) 9) < strengthI (valueOf (chosenL b keepCalls) 9) then (valueOf (chosenL b keepCalls) 9) else (valueOf (chosenL a keepCalls) 9)), .int .i64 10, .int .i64 (valueOf (chosenL b keepCalls) 10), .int .i64 11, .int .i64 (valueOf (chosenL a keepCalls) 11), .int .i64 12, .int .i64 (valueOf (chosenL a keepCalls) 12), .int .i64 13, .int .i64 (valueOf (chosenL a keepCalls) 13)] 46 (0, 0)) := hb146
        refine (wl_done (then_norm ?_))
        have hl : limitOf (agC a) (agC b) = valueOf (agC b) 10 := by unfold limitOf; rw [if_pos (lim_t hc142)]
        have hB147 : Below W64.heap.size W64 W144 := (hP145.below (below_step (below_step (below_new (Below.refl _ _) hN68) hE73) hW141) (le_new (Below.refl _ _) hN68))
        exact ⟨⟨rfl, rfl, rfl, rfl, rfl, rfl, trivial⟩, hB147, (by rw [hl]; exact hb146)⟩
      · refine wc_skip ?_
        refine (then_norm ?_)
        have hl : limitOf (agC a) (agC b) = valueOf (agC a) 10 := by unfold limitOf; rw [if_neg (lim_f hc142)]
        have hb148 : W140.heap[b67]? = some (.cells #[.int .i64 8, .int .i64 (if (fun x => x) (valueOf (chosenL a keepCalls) 8) < (fun x => x) (valueOf (chosenL b keepCalls) 8) then (valueOf (chosenL b keepCalls) 8) else (valueOf (chosenL a keepCalls) 8)), .int .i64 9, .int .i64 (if strengthI (valueOf (chosenL a keepCalls) 9) < strengthI (valueOf (chosenL b keepCalls) 9) then (valueOf (chosenL b keepCalls) 9) else (valueOf (chosenL a keepCalls) 9)), .int .i64 10, .int .i64 (valueOf (chosenL a keepCalls) 10), .int .i64 11, .int .i64 (valueOf (chosenL a keepCalls) 11), .int .i64 12, .int .i64 (valueOf (chosenL a keepCalls) 12), .int .i64 13, .int .i64 (valueOf (chosenL a keepCalls) 13)] 46 (0, 0)) := (blk_ext (blk_ext hb69 hE73) hW141)
        have hB149 : Below W64.heap.size W64 W140 := (below_step (below_step (below_new (Below.refl _ _) hN68) hE73) hW141)
        exact ⟨⟨rfl, rfl, rfl, rfl, rfl, rfl, trivial⟩, hB149, (by rw [hl]; exact hb148)⟩
    · rintro l' W70 ⟨hsub, hE150, hb151⟩
      refine WC.sub _ hsub ?_
      refine wc_seq ?_
      refine wc_seq ?_
      refine wc_draw mixed [(4, .slice none 0 0), (5, .int .i64 0), (6, .int .i64 0), (8, .int .i64 (chosenE a)), (9, .slice A120 n121 c122), (11, .slice (some ⟨b67, 0, none⟩) 6 6)] ⟨rfl, rfl, rfl, rfl, rfl, rfl, trivial⟩ [fun v _ => v = .slice (some ⟨b67, 0, none⟩) 6 6, fun v _ => v = .pointer (some ⟨b67, 6, none⟩), fun v _ => v = .pointer (some ⟨b67, 6 + 1, none⟩), fun v _ => v = .int .i64 (valueOf (chosenL a keepCalls) 11), fun v _ => v = .slice A120 n121 c122, fun v _ => v = .int .i64 (valueOf (chosenL b keepCalls) 11), fun v _ => v = .bool (decide (valueOf (chosenL b keepCalls) 11 < valueOf (chosenL a keepCalls) 11))] [[], [0], [1], [2], [], [4], [3, 5]] [6] rfl rfl rfl ⟨fun _ _ _ _ h => h, fun _ _ _ _ h => h, fun _ _ _ _ h => h, fun _ _ _ _ h => h, fun _ _ _ _ h => h, fun _ _ _ _ h => h, fun _ _ _ _ h => h, trivial⟩ ⟨?_, ?_, ?_, ?_, ?_, ?_, ?_, trivial⟩ ?_
      · intro W152 hW153
        refine gather_nil ?_
        refine opg_none rfl ?_
        exact op_move rfl rfl ⟨told rfl rfl rfl, (Below.refl _ _)⟩
      · intro W152 hW153
        rintro _ rfl
        refine gather_nil ?_
        refine opg_none rfl ?_
        exact op_indexAddr (b := b67) (o := 0) (j := 3) rfl rfl und22 sz46 rfl rfl (by omega) rfl ⟨told rfl rfl rfl, (Below.refl _ _)⟩
      · intro W152 hW153
        rintro _ rfl
        refine gather_nil ?_
        refine opg_none rfl ?_
        exact op_fieldAddr rfl fa46_1 rfl ⟨told rfl rfl rfl, (Below.refl _ _)⟩
      · intro W152 hW153
        rintro _ rfl
        refine gather_nil ?_
        refine opg_none rfl ?_
        have hb156 : W152.heap[b67]? = some (.cells #[.int .i64 8, .int .i64 (if (fun x => x) (valueOf (chosenL a keepCalls) 8) < (fun x => x) (valueOf (chosenL b keepCalls) 8) then (valueOf (chosenL b keepCalls) 8) else (valueOf (chosenL a keepCalls) 8)), .int .i64 9, .int .i64 (if strengthI (valueOf (chosenL a keepCalls) 9) < strengthI (valueOf (chosenL b keepCalls) 9) then (valueOf (chosenL b keepCalls) 9) else (valueOf (chosenL a keepCalls) 9)), .int .i64 10, .int .i64 (limitOf (agC a) (agC b)), .int .i64 11, .int .i64 (valueOf (chosenL a keepCalls) 11), .int .i64 12, .int .i64 (valueOf (chosenL a keepCalls) 12), .int .i64 13, .int .i64 (valueOf (chosenL a keepCalls) 13)] 46 (0, 0)) := (blk_ext hb151 hW153)
        exact op_load1 (v := .int .i64 (valueOf (chosenL a keepCalls) 11)) rfl agg3 (cell_blk hb156 rfl) rfl ⟨told rfl rfl rfl, (Below.refl _ _)⟩
      · intro W152 hW153
        refine gather_nil ?_
        refine opg_none rfl ?_
        exact op_move rfl rfl ⟨told rfl rfl rfl, (Below.refl _ _)⟩
      · intro W152 hW153
        rintro _ rfl
        refine gather_nil ?_
        refine opg_none rfl ?_
        have hB157 : Below W24.heap.size W24 W152 := (below_step (below_step (below_step (below_step (below_step (below_step (below_step (below_step hB49 hE51) hE53) hE56) hE59) hE62) hE65) hE150) hW153)
        refine op_call ent40 rfl (value_spec (hp23.ext (flat_lifts _) hB157) (asc_chosen hvb _) (by omega) (by omega)) rfl ?_
        rintro _ W158 ⟨rfl, hE159⟩
        exact ⟨told rfl rfl rfl, hE159⟩
      · intro W152 hW153
        rintro _ rfl
        rintro _ rfl
        refine gather_nil ?_
        refine opg_none rfl ?_
        exact op_gtr rfl rfl rfl ⟨told rfl rfl rfl, (Below.refl _ _)⟩
      intro W160 hW161
      rintro _ rfl
      refine gather_nil ?_
      refine (then_norm ?_)
      refine wc_cond (b := decide (valueOf (chosenL b keepCalls) 11 < valueOf (chosenL a keepCalls) 11)) rfl (fun hc162 => ?_) (fun hc162 => ?_)
      · have hc162r := hc162
        have hc162 := of_decide_eq_true hc162
        refine wc_seq ?_
        refine wc_region ?_
        refine wl_op rfl (op_assign rfl rfl ?_)
        refine wl_op rfl (op_assign rfl rfl ?_)
        refine wl_op rfl (op_assign rfl rfl ?_)
        refine (wl_done (then_norm ?_))
        refine wc_ret ?_
        refine (then_ret ?_)
        have hB163 : Below w.heap.size w W160 := (below_step (below_step (below_step (below_step (below_step (below_step (below_step (below_step (below_step (below_step (below_step (below_step (below_step (below_step hB19 hE25) hW35) hE40) hE43) hE45) hE48) hE51) hE53) hE56) hE59) hE62) hE65) hE150) hW161)
        have hag := agree_route hva hvb hc162
        refine ⟨[_, _, _], ⟨rfl, rfl, rfl, trivial⟩, ⟨none, 0, 0, ?_, (by rw [hag]; exact rd_nil _ _ _), hB163⟩⟩
        rw [hag]
        rfl
      · have hc162r := hc162
        have hc162 := of_decide_eq_false hc162
        refine wc_skip ?_
        refine (then_norm ?_)
        refine wc_join (fun l' w' => Sub [(4, .slice none 0 0), (5, .int .i64 0), (6, .int .i64 0), (8, .int .i64 (chosenE a)), (9, .slice A120 n121 c122), (11, .slice (some ⟨b67, 0, none⟩) 6 6)] l' ∧ Below W64.heap.size W64 w' ∧ w'.heap[b67]? = some (.cells #[.int .i64 8, .int .i64 (if (fun x => x) (valueOf (chosenL a keepCalls) 8) < (fun x => x) (valueOf (chosenL b keepCalls) 8) then (valueOf (chosenL b keepCalls) 8) else (valueOf (chosenL a keepCalls) 8)), .int .i64 9, .int .i64 (if strengthI (valueOf (chosenL a keepCalls) 9) < strengthI (valueOf (chosenL b keepCalls) 9) then (valueOf (chosenL b keepCalls) 9) else (valueOf (chosenL a keepCalls) 9)), .int .i64 10, .int .i64 (limitOf (agC a) (agC b)), .int .i64 11, .int .i64 (valueOf (chosenL a keepCalls) 11), .int .i64 12, .int .i64 (prioOf (agC a) (agC b)), .int .i64 13, .int .i64 (valueOf (chosenL a keepCalls) 13)] 46 (0, 0))) ?_ ?_
        · refine wc_seq ?_
          refine wc_region ?_
          refine wl_op rfl (op_move rfl rfl ?_)
          have hB165 : Below W24.heap.size W24 W160 := (below_step (below_step (below_step (below_step (below_step (below_step (below_step (below_step hB49 hE51) hE53) hE56) hE59) hE62) hE65) hE150) hW161)
          refine wl_op rfl (op_call ent45 rfl (ContainsFunc_spec (hp23.ext (flat_lifts _) hB165) ent46 (fun W a b hm hW => Agree2_spec) (keep := fun p => decide (p.kind = 12))) rfl ?_)
          rintro _ W166 ⟨rfl, hE167⟩
          refine (wl_done (then_norm ?_))
          refine wc_cond (b := (chosenL b keepCalls).any (fun p => decide (p.kind = 12))) rfl (fun hc168 => ?_) (fun hc168 => ?_)
          · refine wc_draw_tail 8 mixed [(4, .slice none 0 0), (5, .int .i64 0), (6, .int .i64 0), (8, .int .i64 (chosenE a)), (9, .slice A120 n121 c122), (11, .slice (some ⟨b67, 0, none⟩) 6 6)] ⟨rfl, rfl, rfl, rfl, rfl, rfl, trivial⟩ [fun v _ => v = .slice (some ⟨b67, 0, none⟩) 6 6, fun v _ => v = .slice (some ⟨b67, 0, none⟩) 6 6, fun v _ => v = .pointer (some ⟨b67, 8, none⟩), fun v _ => v = .pointer (some ⟨b67, 8 + 1, none⟩), fun v _ => v = .int .i64 (valueOf (chosenL a keepCalls) 12), fun v _ => v = .slice A120 n121 c122, fun v _ => v = .int .i64 (valueOf (chosenL b keepCalls) 12), fun v _ => v = .int .i64 (if valueOf (chosenL b keepCalls) 12 < valueOf (chosenL a keepCalls) 12 then valueOf (chosenL b keepCalls) 12 else valueOf (chosenL a keepCalls) 12)] [[], [], [1], [2], [3], [], [5], [4, 6]] [0, 7] rfl rfl rfl rfl rfl rfl ⟨fun _ _ _ _ h => h, fun _ _ _ _ h => h, fun _ _ _ _ h => h, fun _ _ _ _ h => h, fun _ _ _ _ h => h, fun _ _ _ _ h => h, fun _ _ _ _ h => h, fun _ _ _ _ h => h, trivial⟩ ⟨?_, ?_, ?_, ?_, ?_, ?_, ?_, ?_, trivial⟩ ?_
            · intro W169 hW170
              refine gather_nil ?_
              refine opg_none rfl ?_
              exact op_move rfl rfl ⟨told rfl rfl rfl, (Below.refl _ _)⟩
            · intro W169 hW170
              refine gather_nil ?_
              refine opg_none rfl ?_
              exact op_move rfl rfl ⟨told rfl rfl rfl, (Below.refl _ _)⟩
            · intro W169 hW170
              rintro _ rfl
              refine gather_nil ?_
              refine opg_none rfl ?_
              exact op_indexAddr (b := b67) (o := 0) (j := 4) rfl rfl und22 sz46 rfl rfl (by omega) rfl ⟨told rfl rfl rfl, (Below.refl _ _)⟩
            · intro W169 hW170
              rintro _ rfl
              refine gather_nil ?_
              refine opg_none rfl ?_
              exact op_fieldAddr rfl fa46_1 rfl ⟨told rfl rfl rfl, (Below.refl _ _)⟩
            · intro W169 hW170
              rintro _ rfl
              refine gather_nil ?_
              refine opg_none rfl ?_
              have hb173 : W169.heap[b67]? = some (.cells #[.int .i64 8, .int .i64 (if (fun x => x) (valueOf (chosenL a keepCalls) 8) < (fun x => x) (valueOf (chosenL b keepCalls) 8) then (valueOf (chosenL b keepCalls) 8) else (valueOf (chosenL a keepCalls) 8)), .int .i64 9, .int .i64 (if strengthI (valueOf (chosenL a keepCalls) 9) < strengthI (valueOf (chosenL b keepCalls) 9) then (valueOf (chosenL b keepCalls) 9) else (valueOf (chosenL a keepCalls) 9)), .int .i64 10, .int .i64 (limitOf (agC a) (agC b)), .int .i64 11, .int .i64 (valueOf (chosenL a keepCalls) 11), .int .i64 12, .int .i64 (valueOf (chosenL a keepCalls) 12), .int .i64 13, .int .i64 (valueOf (chosenL a keepCalls) 13)] 46 (0, 0)) := (blk_ext (blk_ext (blk_ext hb151 hW161) hE167) hW170)
              exact op_load1 (v := .int .i64 (valueOf (chosenL a keepCalls) 12)) rfl agg3 (cell_blk hb173 rfl) rfl ⟨told rfl rfl rfl, (Below.refl _ _)⟩
            · intro W169 hW170
              refine gather_nil ?_
              refine opg_none rfl ?_
              exact op_move rfl rfl ⟨told rfl rfl rfl, (Below.refl _ _)⟩
            · intro W169 hW170
              rintro _ rfl
              refine gather_nil ?_
              refine opg_none rfl ?_
              have hB174 : Below W24.heap.size W24 W169 := (below_step (below_step hB165 hE167) hW170)
              refine op_call ent40 rfl (value_spec (hp23.ext (flat_lifts _) hB174) (asc_chosen hvb _) (by omega) (by omega)) rfl ?_
              rintro _ W175 ⟨rfl, hE176⟩
              exact ⟨told rfl rfl rfl, hE176⟩
            · intro W169 hW170
              rintro _ rfl
              rintro _ rfl
              refine gather_nil ?_
              refine opg_none rfl ?_
              exact op_min rfl rfl rfl rfl ⟨told rfl rfl rfl, (Below.refl _ _)⟩
            intro W177 hW178
            rintro _ rfl
            rintro _ rfl
            refine gather_nil ?_
            refine wl_op rfl (op_indexAddr (b := b67) (o := 0) (j := 4) rfl rfl und22 sz46 rfl rfl (by omega) rfl ?_)
            refine wl_op rfl (op_fieldAddr rfl fa46_1 rfl ?_)
            have hb179 : W177.heap[b67]? = some (.cells #[.int .i64 8, .int .i64 (if (fun x => x) (valueOf (chosenL a keepCalls) 8) < (fun x => x) (valueOf (chosenL b keepCalls) 8) then (valueOf (chosenL b keepCalls) 8) else (valueOf (chosenL a keepCalls) 8)), .int .i64 9, .int .i64 (if strengthI (valueOf (chosenL a keepCalls) 9) < strengthI (valueOf (chosenL b keepCalls) 9) then (valueOf (chosenL b keepCalls) 9) else (valueOf (chosenL a keepCalls) 9)), .int .i64 10, .int .i64 (limitOf (agC a) (agC b)), .int .i64 11, .int .i64 (valueOf (chosenL a keepCalls) 11), .int .i64 12, .int .i64 (valueOf (chosenL a keepCalls) 12), .int .i64 13, .int .i64 (valueOf (chosenL a keepCalls) 13)] 46 (0, 0)) := (blk_ext (blk_ext (blk_ext hb151 hW161) hE167) hW178)
            refine wl_op rfl (op_store rfl rfl sz3 hb179 rfl rfl ?_)
            intro W180 hP181 hb182
            have hb182 : W180.heap[b67]? = some (.cells #[.int .i64 8, .int .i64 (if (fun x => x) (valueOf (chosenL a keepCalls) 8) < (fun x => x) (valueOf (chosenL b keepCalls) 8) then (valueOf (chosenL b keepCalls) 8) else (valueOf (chosenL a keepCalls) 8)), .int .i64 9, .int .i64 (if strengthI (valueOf (chosenL a keepCalls) 9) < strengthI (valueOf (chosenL b keepCalls) 9) then (valueOf (chosenL b keepCalls) 9) else (valueOf (chosenL a keepCalls) 9)), .int .i64 10, .int .i64 (limitOf (agC a) (agC b)), .int .i64 11, .int .i64 (valueOf (chosenL a keepCalls) 11), .int .i64 12, .int .i64 (if valueOf (chosenL b keepCalls) 12 < valueOf (chosenL a keepCalls) 12 then valueOf (chosenL b keepCalls) 12 else valueOf (chosenL a keepCalls) 12), .int .i64 13, .int .i64 (valueOf (chosenL a keepCalls) 13)] 46 (0, 0)) := hb182
            refine (wl_done (then_norm ?_))
            have hl : prioOf (agC a) (agC b) = (if valueOf (agC b) 12 < valueOf (agC a) 12 then valueOf (agC b) 12 else valueOf (agC a) 12) := by unfold prioOf; rw [if_pos hc168]
            have hB183 : Below W64.heap.size W64 W180 := (hP181.below (below_step (below_step (below_step (below_step (Below.refl _ _) hE150) hW161) hE167) hW178) (le_new (Below.refl _ _) hN68))
            exact ⟨⟨rfl, rfl, rfl, rfl, rfl, rfl, trivial⟩, hB183, (by rw [hl]; exact hb182)⟩
          · refine wc_skip ?_
            refine (then_norm ?_)
            have hl : prioOf (agC a) (agC b) = valueOf (agC a) 12 := by unfold prioOf; rw [if_neg (fun h => by rw [show hasPrio (agC b) = false from hc168] at h; cases h)]
            have hb184 : W166.heap[b67]? = some (.cells #[.int .i64 8, .int .i64 (if (fun x => x) (valueOf (chosenL a keepCalls) 8) < (fun x => x) (valueOf (chosenL b keepCalls) 8) then (valueOf (chosenL b keepCalls) 8) else (valueOf (chosenL a keepCalls) 8)), .int .i64 9, .int .i64 (if strengthI (valueOf (chosenL a keepCalls) 9) < strengthI (valueOf (chosenL b keepCalls) 9) then (valueOf (chosenL b keepCalls) 9) else (valueOf (chosenL a keepCalls) 9)), .int .i64 10, .int .i64 (limitOf (agC a) (agC b)), .int .i64 11, .int .i64 (valueOf (chosenL a keepCalls) 11), .int .i64 12, .int .i64 (valueOf (chosenL a keepCalls) 12), .int .i64 13, .int .i64 (valueOf (chosenL a keepCalls) 13)] 46 (0, 0)) := (blk_ext (blk_ext hb151 hW161) hE167)
            have hB185 : Below W64.heap.size W64 W166 := (below_step (below_step (below_step (Below.refl _ _) hE150) hW161) hE167)
            exact ⟨⟨rfl, rfl, rfl, rfl, rfl, rfl, trivial⟩, hB185, (by rw [hl]; exact hb184)⟩
        · rintro l' W164 ⟨hsub, hE186, hb187⟩
          refine WC.sub _ hsub ?_
          refine wc_join (fun l' w' => Sub [(4, .slice none 0 0), (5, .int .i64 0), (6, .int .i64 0), (8, .int .i64 (chosenE a)), (11, .slice (some ⟨b67, 0, none⟩) 6 6)] l' ∧ Below W64.heap.size W64 w' ∧ w'.heap[b67]? = some (.cells #[.int .i64 8, .int .i64 (if (fun x => x) (valueOf (chosenL a keepCalls) 8) < (fun x => x) (valueOf (chosenL b keepCalls) 8) then (valueOf (chosenL b keepCalls) 8) else (valueOf (chosenL a keepCalls) 8)), .int .i64 9, .int .i64 (if strengthI (valueOf (chosenL a keepCalls) 9) < strengthI (valueOf (chosenL b keepCalls) 9) then (valueOf (chosenL b keepCalls) 9) else (valueOf (chosenL a keepCalls) 9)), .int .i64 10, .int .i64 (limitOf (agC a) (agC b)), .int .i64 11, .int .i64 (valueOf (chosenL a keepCalls) 11), .int .i64 12, .int .i64 (prioOf (agC a) (agC b)), .int .i64 13, .int .i64 (orderOf (agC a) (agC b))] 46 (0, 0))) ?_ ?_
          · refine wc_seq ?_
            refine wc_region ?_
            refine wl_op rfl (op_move rfl rfl ?_)
            refine wl_op rfl (op_indexAddr (b := b67) (o := 0) (j := 5) rfl rfl und22 sz46 rfl rfl (by omega) rfl ?_)
            refine wl_op rfl (op_fieldAddr rfl fa46_1 rfl ?_)
            refine wl_op rfl (op_load1 (v := .int .i64 (valueOf (chosenL a keepCalls) 13)) rfl agg3 (cell_blk hb187 rfl) rfl ?_)
            refine wl_op rfl (op_eql rfl rfl rfl ?_)
            refine (wl_done (then_norm ?_))
            refine wc_cond (b := decide (valueOf (chosenL a keepCalls) 13 = 1)) rfl (fun hc189 => ?_) (fun hc189 => ?_)
            · have hc189r := hc189
              have hc189 := of_decide_eq_true hc189
              refine wc_region ?_
              refine wl_op rfl (op_move rfl rfl ?_)
              refine wl_op rfl (op_move rfl rfl ?_)
              have hB190 : Below W24.heap.size W24 W164 := (below_step (below_step (below_step (below_step (below_step (below_step (below_step hB49 hE51) hE53) hE56) hE59) hE62) hE65) hE186)
              refine wl_op rfl (op_call ent40 rfl (value_spec (hp23.ext (flat_lifts _) hB190) (asc_chosen hvb _) (by omega) (by omega)) rfl ?_)
              rintro _ W191 ⟨rfl, hE192⟩
              refine wl_op rfl (op_indexAddr (b := b67) (o := 0) (j := 5) rfl rfl und22 sz46 rfl rfl (by omega) rfl ?_)
              refine wl_op rfl (op_fieldAddr rfl fa46_1 rfl ?_)
              have hb193 : W191.heap[b67]? = some (.cells #[.int .i64 8, .int .i64 (if (fun x => x) (valueOf (chosenL a keepCalls) 8) < (fun x => x) (valueOf (chosenL b keepCalls) 8) then (valueOf (chosenL b keepCalls) 8) else (valueOf (chosenL a keepCalls) 8)), .int .i64 9, .int .i64 (if strengthI (valueOf (chosenL a keepCalls) 9) < strengthI (valueOf (chosenL b keepCalls) 9) then (valueOf (chosenL b keepCalls) 9) else (valueOf (chosenL a keepCalls) 9)), .int .i64 10, .int .i64 (limitOf (agC a) (agC b)), .int .i64 11, .int .i64 (valueOf (chosenL a keepCalls) 11), .int .i64 12, .int .i64 (prioOf (agC a) (agC b)), .int .i64 13, .int .i64 (valueOf (chosenL a keepCalls) 13)] 46 (0, 0)) := (blk_ext hb187 hE192)
              refine wl_op rfl (op_store rfl rfl sz3 hb193 rfl rfl ?_)
              intro W194 hP195 hb196
              have hb196 : W194.heap[b67]? = some (.cells #[.int .i64 8, .int .i64 (if (fun x => x) (valueOf (chosenL a keepCalls) 8) < (fun x => x) (valueOf (chosenL b keepCalls) 8) then (valueOf (chosenL b keepCalls) 8) else (valueOf (chosenL a keepCalls) 8)), .int .i64 9, .int .i64 (if strengthI (valueOf (chosenL a keepCalls) 9) < strengthI (valueOf (chosenL b keepCalls) 9) then (valueOf (chosenL b keepCalls) 9) else (valueOf (chosenL a keepCalls) 9)), .int .i64 10, .int .i64 (limitOf (agC a) (agC b)), .int .i64 11, .int .i64 (valueOf (chosenL a keepCalls) 11), .int .i64 12, .int .i64 (prioOf (agC a) (agC b)), .int .i64 13, .int .i64 (valueOf (chosenL b keepCalls) 13)] 46 (0, 0)) := hb196
              refine (wl_done (then_norm ?_))
              have hl : orderOf (agC a) (agC b) = valueOf (agC b) 13 := by unfold orderOf; rw [if_pos hc189]
              have hB197 : Below W64.heap.size W64 W194 := (hP195.below (below_step (below_step (Below.refl _ _) hE186) hE192) (le_new (Below.refl _ _) hN68))
              exact ⟨⟨rfl, rfl, rfl, rfl, rfl, trivial⟩, hB197, (by rw [hl]; exact hb196)⟩
            · have hc189r := hc189
              have hc189 := of_decide_eq_false hc189
              refine wc_skip ?_
              refine (then_norm ?_)
              have hl : orderOf (agC a) (agC b) = valueOf (agC a) 13 := by unfold orderOf; rw [if_neg hc189]
              have hB198 : Below W64.heap.size W64 W164 := (below_step (Below.refl _ _) hE186)
              exact ⟨⟨rfl, rfl, rfl, rfl, rfl, trivial⟩, hB198, (by rw [hl]; exact hb187)⟩
          · rintro l' W188 ⟨hsub, hE199, hb200⟩
            refine WC.sub _ hsub ?_
            refine wc_seq ?_
            refine wc_seq ?_
            refine wc_region ?_
            refine wl_op rfl (op_move rfl rfl ?_)
            refine wl_op rfl (op_call ent8 rfl (Clashes_spec (rd_of_blk (enc := encP) [(⟨8, if (fun x => x) (valueOf (chosenL a keepCalls) 8) < (fun x => x) (valueOf (chosenL b keepCalls) 8) then (valueOf (chosenL b keepCalls) 8) else (valueOf (chosenL a keepCalls) 8)⟩ : Pol), (⟨9, if strengthI (valueOf (chosenL a keepCalls) 9) < strengthI (valueOf (chosenL b keepCalls) 9) then (valueOf (chosenL b keepCalls) 9) else (valueOf (chosenL a keepCalls) 9)⟩ : Pol), (⟨10, limitOf (agC a) (agC b)⟩ : Pol), (⟨11, valueOf (chosenL a keepCalls) 11⟩ : Pol), (⟨12, prioOf (agC a) (agC b)⟩ : Pol), (⟨13, orderOf (agC a) (agC b)⟩ : Pol)] hb200 (fun _ => rfl) rfl rfl rfl)) rfl ?_)
            rintro _ W205 ⟨A1201, n1202, c1203, rfl, hp204, hE206⟩
            refine wl_op rfl (op_move rfl rfl ?_)
            refine wl_op rfl (op_extract (v := .slice A1201 n1202 c1203) rfl rfl rfl ?_)
            refine wl_op rfl (op_extract (v := .int .i64 (chosenE [(⟨8, if (fun x => x) (valueOf (chosenL a keepCalls) 8) < (fun x => x) (valueOf (chosenL b keepCalls) 8) then (valueOf (chosenL b keepCalls) 8) else (valueOf (chosenL a keepCalls) 8)⟩ : Pol), (⟨9, if strengthI (valueOf (chosenL a keepCalls) 9) < strengthI (valueOf (chosenL b keepCalls) 9) then (valueOf (chosenL b keepCalls) 9) else (valueOf (chosenL a keepCalls) 9)⟩ : Pol), (⟨10, limitOf (agC a) (agC b)⟩ : Pol), (⟨11, valueOf (chosenL a keepCalls) 11⟩ : Pol), (⟨12, prioOf (agC a) (agC b)⟩ : Pol), (⟨13, orderOf (agC a) (agC b)⟩ : Pol)])) rfl rfl rfl ?_)
            refine wl_op rfl (op_assign rfl rfl ?_)
            refine wl_op rfl (op_assign rfl rfl ?_)
            refine (wl_done (then_norm ?_))
            refine WC.sub [(4, .slice none 0 0), (5, .int .i64 0), (6, .int .i64 0), (8, .int .i64 (chosenE a)), (11, .slice (some ⟨b67, 0, none⟩) 6 6), (13, .slice A1201 n1202 c1203)] ⟨rfl, rfl, rfl, rfl, rfl, rfl, trivial⟩ ?_
            refine wc_seq ?_
            refine wc_region ?_
            refine wl_op rfl (op_move rfl rfl ?_)
            refine wl_op rfl (op_len_slice rfl rfl und25 rfl rfl ?_)
            refine wl_op rfl (op_gtr rfl rfl rfl ?_)
            refine (wl_done (then_norm ?_))
            refine wc_cond (b := decide (0 < ((n1202 : Nat) : Int))) rfl (fun hc207 => ?_) (fun hc207 => ?_)
            · have hc207r := hc207
              have hc207 := of_decide_eq_true hc207
              refine wc_seq ?_
              obtain ⟨bs210, os211, hA212, hc213⟩ := hp204.flat
              have hln214 := hp204.len
              have hbd215 := hp204.bd
              obtain ⟨x_hp204_0, hx_hp204_0⟩ : ∃ x, (clashL [(⟨8, if (fun x => x) (valueOf (chosenL a keepCalls) 8) < (fun x => x) (valueOf (chosenL b keepCalls) 8) then (valueOf (chosenL b keepCalls) 8) else (valueOf (chosenL a keepCalls) 8)⟩ : Pol), (⟨9, if strengthI (valueOf (chosenL a keepCalls) 9) < strengthI (valueOf (chosenL b keepCalls) 9) then (valueOf (chosenL b keepCalls) 9) else (valueOf (chosenL a keepCalls) 9)⟩ : Pol), (⟨10, limitOf (agC a) (agC b)⟩ : Pol), (⟨11, valueOf (chosenL a keepCalls) 11⟩ : Pol), (⟨12, prioOf (agC a) (agC b)⟩ : Pol), (⟨13, orderOf (agC a) (agC b)⟩ : Pol)])[0]? = some x := ⟨_, List.getElem?_eq_getElem (by have := hp204.len; omega)⟩
              refine wc_draw mixed [(8, .int .i64 (chosenE a)), (11, .slice (some ⟨b67, 0, none⟩) 6 6), (13, .slice A1201 n1202 c1203)] ⟨rfl, rfl, rfl, trivial⟩ [fun v _ => v = .slice A1201 n1202 c1203, fun v _ => v = .pointer (some ⟨bs210, os211 + 0 * 2, none⟩), fun v _ => v = .pointer (some ⟨bs210, os211 + 0 * 2 + 0 * 1, none⟩), fun v _ => v = .int .i64 x_hp204_0.1, fun v _ => v = .slice none 0 0, fun v _ => v = .int .i64 x_hp204_0.1, fun v _ => v = .int .i64 9] [[], [0], [1], [2], [], [3], []] [4, 5, 6] rfl rfl rfl ⟨fun _ _ _ _ h => h, fun _ _ _ _ h => h, fun _ _ _ _ h => h, fun _ _ _ _ h => h, fun _ _ _ _ h => h, fun _ _ _ _ h => h, fun _ _ _ _ h => h, trivial⟩ ⟨?_, ?_, ?_, ?_, ?_, ?_, ?_, trivial⟩ ?_
              · intro W208 hW209
                refine gather_nil ?_
                refine opg_none rfl ?_
                exact op_move rfl rfl ⟨told rfl rfl rfl, (Below.refl _ _)⟩
              · intro W208 hW209
                rintro _ rfl
                refine gather_nil ?_
                refine opg_none rfl ?_
                exact op_indexAddr (j := 0) rfl rfl und25 sz29 (hA212 (by omega)) rfl (by omega) rfl ⟨told rfl rfl rfl, (Below.refl _ _)⟩
              · intro W208 hW209
                rintro _ rfl
                refine gather_nil ?_
                refine opg_none rfl ?_
                exact op_indexArr (j := 0) rfl rfl und29 sz3 rfl (by omega) rfl ⟨told rfl rfl rfl, (Below.refl _ _)⟩
              · intro W208 hW209
                rintro _ rfl
                refine gather_nil ?_
                refine opg_none rfl ?_
                have hB217 : Below W205.heap.size W205 W208 := (below_step (Below.refl _ _) hW209)
                exact op_load1 (v := .int .i64 x_hp204_0.1) rfl agg3 (((hc213 0 x_hp204_0 hx_hp204_0).ext hB217).at (i := 0) rfl) rfl ⟨told rfl rfl rfl, (Below.refl _ _)⟩
              · intro W208 hW209
                refine gather_nil ?_
                refine opg_none rfl ?_
                exact op_assign rfl rfl ⟨told rfl rfl rfl, (Below.refl _ _)⟩
              · intro W208 hW209
                rintro _ rfl
                refine gather_nil ?_
                refine opg_none rfl ?_
                exact op_assign rfl rfl ⟨told rfl rfl rfl, (Below.refl _ _)⟩
              · intro W208 hW209
                refine gather_nil ?_
                refine opg_none rfl ?_
                exact op_assign rfl rfl ⟨told rfl rfl rfl, (Below.refl _ _)⟩
              intro W218 hW219
              rintro _ rfl
              rintro _ rfl
              rintro _ rfl
              refine gather_nil ?_
              refine (then_norm ?_)
              refine wc_ret ?_
              refine (then_ret ?_)
              have hB220 : Below w.heap.size w W218 := (below_step (below_step (below_step (below_step (below_step (below_step (below_step (below_step (below_step (below_step (below_step (below_step (below_step (below_step (below_step hB19 hE25) hW35) hE40) hE43) hE45) hE48) hE51) hE53) hE56) hE59) hE62) hE65) hE199) hE206) hW219)
              have hag := agree_clash hva hvb hc162 hx_hp204_0
              refine ⟨[_, _, _], ⟨rfl, rfl, rfl, trivial⟩, ⟨none, 0, 0, ?_, (by rw [hag]; exact rd_nil _ _ _), hB220⟩⟩
              rw [hag]
              rfl
            · have hc207r := hc207
              have hc207 := of_decide_eq_false hc207
              have hcl0 : (clashL (agreed (agC a) (agC b))).length = 0 := (show (clashL (agreed (agC a) (agC b))).length = _ from hp204.len).trans (by omega)
              refine wc_skip ?_
              refine (then_norm ?_)
              refine wc_seq ?_
              refine wc_region ?_
              refine wl_op rfl (op_move rfl rfl ?_)
              have hb221 : W205.heap[b67]? = some (.cells #[.int .i64 8, .int .i64 (if (fun x => x) (valueOf (chosenL a keepCalls) 8) < (fun x => x) (valueOf (chosenL b keepCalls) 8) then (valueOf (chosenL b keepCalls) 8) else (valueOf (chosenL a keepCalls) 8)), .int .i64 9, .int .i64 (if strengthI (valueOf (chosenL a keepCalls) 9) < strengthI (valueOf (chosenL b keepCalls) 9) then (valueOf (chosenL b keepCalls) 9) else (valueOf (chosenL a keepCalls) 9)), .int .i64 10, .int .i64 (limitOf (agC a) (agC b)), .int .i64 11, .int .i64 (valueOf (chosenL a keepCalls) 11), .int .i64 12, .int .i64 (prioOf (agC a) (agC b)), .int .i64 13, .int .i64 (orderOf (agC a) (agC b))] 46 (0, 0)) := (blk_ext hb200 hE206)
              refine wl_op rfl (op_call ent21 rfl (Plain_spec (rd_of_blk (enc := encP) [(⟨8, if (fun x => x) (valueOf (chosenL a keepCalls) 8) < (fun x => x) (valueOf (chosenL b keepCalls) 8) then (valueOf (chosenL b keepCalls) 8) else (valueOf (chosenL a keepCalls) 8)⟩ : Pol), (⟨9, if strengthI (valueOf (chosenL a keepCalls) 9) < strengthI (valueOf (chosenL b keepCalls) 9) then (valueOf (chosenL b keepCalls) 9) else (valueOf (chosenL a keepCalls) 9)⟩ : Pol), (⟨10, limitOf (agC a) (agC b)⟩ : Pol), (⟨11, valueOf (chosenL a keepCalls) 11⟩ : Pol), (⟨12, prioOf (agC a) (agC b)⟩ : Pol), (⟨13, orderOf (agC a) (agC b)⟩ : Pol)] hb221 (fun _ => rfl) rfl rfl rfl) (by omega)) rfl ?_)
              rintro _ W226 ⟨A1222, n1223, c1224, rfl, hp225, hE227⟩
              refine wl_op rfl (op_move rfl rfl ?_)
              refine wl_op rfl (op_extract (v := .slice A1222 n1223 c1224) rfl rfl rfl ?_)
              refine wl_op rfl (op_extract (v := .int .i64 (chosenE [(⟨8, if (fun x => x) (valueOf (chosenL a keepCalls) 8) < (fun x => x) (valueOf (chosenL b keepCalls) 8) then (valueOf (chosenL b keepCalls) 8) else (valueOf (chosenL a keepCalls) 8)⟩ : Pol), (⟨9, if strengthI (valueOf (chosenL a keepCalls) 9) < strengthI (valueOf (chosenL b keepCalls) 9) then (valueOf (chosenL b keepCalls) 9) else (valueOf (chosenL a keepCalls) 9)⟩ : Pol), (⟨10, limitOf (agC a) (agC b)⟩ : Pol), (⟨11, valueOf (chosenL a keepCalls) 11⟩ : Pol), (⟨12, prioOf (agC a) (agC b)⟩ : Pol), (⟨13, orderOf (agC a) (agC b)⟩ : Pol)])) rfl rfl rfl ?_)
              refine wl_op rfl (op_assign rfl rfl ?_)
              refine wl_op rfl (op_assign rfl rfl ?_)
              refine (wl_done (then_norm ?_))
              refine WC.sub [(4, .slice none 0 0), (5, .int .i64 0), (6, .int .i64 0), (8, .int .i64 (chosenE [(⟨8, if (fun x => x) (valueOf (chosenL a keepCalls) 8) < (fun x => x) (valueOf (chosenL b keepCalls) 8) then (valueOf (chosenL b keepCalls) 8) else (valueOf (chosenL a keepCalls) 8)⟩ : Pol), (⟨9, if strengthI (valueOf (chosenL a keepCalls) 9) < strengthI (valueOf (chosenL b keepCalls) 9) then (valueOf (chosenL b keepCalls) 9) else (valueOf (chosenL a keepCalls) 9)⟩ : Pol), (⟨10, limitOf (agC a) (agC b)⟩ : Pol), (⟨11, valueOf (chosenL a keepCalls) 11⟩ : Pol), (⟨12, prioOf (agC a) (agC b)⟩ : Pol), (⟨13, orderOf (agC a) (agC b)⟩ : Pol)])), (15, .slice A1222 n1223 c1224)] ⟨rfl, rfl, rfl, rfl, rfl, trivial⟩ ?_
              refine wc_seq ?_
              refine wc_region ?_
              refine wl_op rfl (op_move rfl rfl ?_)
              refine wl_op rfl (op_move rfl rfl ?_)
              refine wl_op rfl (op_assign rfl rfl ?_)
              refine wl_op rfl (op_assign rfl rfl ?_)
              refine wl_op rfl (op_assign rfl rfl ?_)
              refine (wl_done (then_norm ?_))
              refine wc_ret ?_
              have hB228 : Below w.heap.size w W226 := (below_step (below_step (below_step (below_step (below_step (below_step (below_step (below_step (below_step (below_step (below_step (below_step (below_step (below_step (below_step hB19 hE25) hW35) hE40) hE43) hE45) hE48) hE51) hE53) hE56) hE59) hE62) hE65) hE199) hE206) hE227)
              have hag := agree_fine hva hvb hc162 hcl0
              refine ⟨[_, _, _], ⟨rfl, rfl, rfl, trivial⟩, ⟨A1222, n1223, c1224, ?_, (by rw [hag]; exact hp225), hB228⟩⟩
              rw [hag]
              rfl

end Go.Eng

set_option linter.unusedVariables false
set_option maxRecDepth 100000
namespace Go.Eng
open Go.RowKit Go.Shelf Go.Proofs Pol

theorem ent64 : Enters Try.prog 64 := enters_of Try.func64 (by kernel_rfl) rfl
theorem ent66 : Enters Try.prog 66 := enters_of Try.func66 (by kernel_rfl) rfl
theorem ent26 : Enters Try.prog 26 := enters_of Try.func26 (by kernel_rfl) rfl
theorem ent48 : Enters Try.prog 48 := enters_of Try.func48 (by kernel_rfl) rfl
theorem ent14 : Enters Try.prog 14 := enters_of Try.func14 (by kernel_rfl) rfl

theorem Kind_spec {w : World} {k : Int} : Ret Try.prog 64 #[.int .i64 k] w (fun v w' => v = .bool (isB k) ∧ Below w.heap.size w w') := by
  refine ret_of (args := [.int .i64 k]) Try.func64 rfl Try.ntmps64 rfl (rs := [.tmp 2]) rfl ?_
  refine wc_seq ?_
  refine wc_region ?_
  refine wl_op rfl (op_assign rfl rfl ?_)
  refine (wl_done (then_norm ?_))
  refine wc_seq ?_
  refine wc_text [(0, .int .i64 k)] ⟨rfl, trivial⟩ [fun v _ => v = .int .i64 k, fun v _ => v = .bool (decide (1 ≤ k)), fun v _ => v = .bool (decide (1 ≤ k)), fun v _ => v = (bif (decide (1 ≤ k)) then (.int .i64 k) else undef), fun v _ => v = (bif (decide (1 ≤ k)) then (.bool (decide (k ≤ 13))) else undef), fun v _ => v = .bool ((decide (1 ≤ k)) && (decide (k ≤ 13))), fun v _ => v = .bool ((decide (1 ≤ k)) && (decide (k ≤ 13)))] [[], [0], [1], [2], [2, 3], [2, 4], [5]] [6] rfl rfl rfl ⟨fun _ _ _ _ h => h, fun _ _ _ _ h => h, fun _ _ _ _ h => h, fun _ _ _ _ h => h, fun _ _ _ _ h => h, fun _ _ _ _ h => h, fun _ _ _ _ h => h, trivial⟩ ⟨?_, ?_, ?_, ?_, ?_, ?_, ?_, trivial⟩ ?_
  · intro W1 hW2
    refine gather_nil ?_
    refine opg_none rfl ?_
    exact op_move rfl rfl ⟨told rfl rfl rfl, (Below.refl _ _)⟩
  · intro W1 hW2
    rintro _ rfl
    refine gather_nil ?_
    refine opg_none rfl ?_
    exact op_geq rfl rfl rfl ⟨told rfl rfl rfl, (Below.refl _ _)⟩
  · intro W1 hW2
    rintro _ rfl
    refine gather_nil ?_
    refine opg_none rfl ?_
    exact op_move rfl rfl ⟨told rfl rfl rfl, (Below.refl _ _)⟩
  · intro W1 hW2
    rintro _ rfl
    refine gather_nil ?_
    refine opg_t1 rfl rfl (fun hg3 => ?_) (fun h => by rw [h, cond_false])
    exact op_move rfl rfl ⟨told rfl rfl (by rw [hg3, cond_true]), (Below.refl _ _)⟩
  · intro W1 hW2
    rintro _ rfl
    intro v4 (hv5 : v4 = bif (decide (1 ≤ k)) then (.int .i64 k) else undef)
    refine gather_nil ?_
    refine opg_t1 rfl rfl (fun hg6 => ?_) (fun h => by rw [h, cond_false])
    have hd7 := of_decide_eq_true hg6
    obtain rfl : v4 = .int .i64 k := by rw [hv5, hg6, cond_true]
    exact op_leq rfl rfl rfl ⟨told rfl rfl (by rw [hg6, cond_true]), (Below.refl _ _)⟩
  · intro W1 hW2
    rintro _ rfl
    intro v8 (hv9 : v8 = bif (decide (1 ≤ k)) then (.bool (decide (k ≤ 13))) else undef)
    refine gather_nil ?_
    refine opg_none rfl ?_
    exact op_and rfl rfl rfl (fun h => by rw [hv9, h, cond_true]) rfl ⟨told rfl rfl rfl, (Below.refl _ _)⟩
  · intro W1 hW2
    rintro _ rfl
    refine gather_nil ?_
    refine opg_none rfl ?_
    exact op_assign rfl rfl ⟨told rfl rfl rfl, (Below.refl _ _)⟩
  intro W10 hW11
  rintro _ rfl
  refine gather_nil ?_
  refine (then_norm ?_)
  refine wc_ret ?_
  have hB12 : Below w.heap.size w W10 := (below_step (Below.refl _ _) hW11)
  refine ⟨[_], ⟨rfl, trivial⟩, ⟨?_, hB12⟩⟩
  exact rfl

theorem words_spec {w : World} {k : Int} (h1 : 1 ≤ k) (h2 : k ≤ 13) : Ret Try.prog 66 #[.int .i64 k] w (fun v w' => ∃ (A1 : Option Addr) (n1 c1 : Nat), v = .slice A1 n1 c1 ∧ n1 = wordsN k + 1 ∧ Below w.heap.size w w') := by
  refine ret_of (args := [.int .i64 k]) Try.func66 rfl Try.ntmps66 rfl (rs := [.tmp 2]) rfl ?_
  refine wc_seq ?_
  refine wc_region ?_
  refine wl_op rfl (op_assign rfl rfl ?_)
  refine (wl_done (then_norm ?_))
  refine wc_seq ?_
  refine wc_seq ?_
  refine wc_region ?_
  refine wl_op rfl (op_move rfl rfl ?_)
  refine (wl_done (then_norm ?_))
  refine wc_block ?_
  refine wc_seq ?_
  refine wc_region ?_
  refine wl_op rfl (op_eql rfl rfl rfl ?_)
  refine wl_op rfl (op_assign rfl rfl ?_)
  refine (wl_done (then_norm ?_))
  refine wc_cond (b := decide (k = 1)) rfl (fun hc1 => ?_) (fun hc1 => ?_)
  · have hc1r := hc1
    have hc1 := of_decide_eq_true hc1
    refine wc_seq ?_
    refine wc_region ?_
    refine wl_op rfl (op_buildSlice (cs := #[.string (ByteArray.mk #[116, 104, 114, 101, 97, 100]), .string (ByteArray.mk #[102, 114, 101, 101]), .string (ByteArray.mk #[115, 105, 110, 103, 108, 101])]) (e := 9) rfl (fun w => by kernel_rfl) rfl ?_)
    intro W2 b3 hN4
    have hb5 : W2.heap[b3]? = some (.cells #[.string (ByteArray.mk #[116, 104, 114, 101, 97, 100]), .string (ByteArray.mk #[102, 114, 101, 101]), .string (ByteArray.mk #[115, 105, 110, 103, 108, 101])] 9 (0, 0)) := hN4.blk
    refine wl_op rfl (op_assign rfl rfl ?_)
    refine (wl_done (then_norm ?_))
    refine wc_ret ?_
    refine (block_ret (then_ret ?_))
    have hB6 : Below w.heap.size w W2 := (below_new (Below.refl _ _) hN4)
    refine ⟨[_], ⟨rfl, trivial⟩, ⟨some ⟨b3, 0, none⟩, 3, 3, ?_, (by rw [hc1]; rfl), hB6⟩⟩
    exact rfl
  · have hc1r := hc1
    have hc1 := of_decide_eq_false hc1
    refine wc_seq ?_
    refine wc_region ?_
    refine wl_op rfl (op_eql rfl rfl rfl ?_)
    refine wl_op rfl (op_assign rfl rfl ?_)
    refine (wl_done (then_norm ?_))
    refine wc_cond (b := decide (k = 2)) rfl (fun hc7 => ?_) (fun hc7 => ?_)
    · have hc7r := hc7
      have hc7 := of_decide_eq_true hc7
      refine wc_seq ?_
      refine wc_region ?_
      refine wl_op rfl (op_buildSlice (cs := #[.string (ByteArray.mk #[108, 105, 102, 101, 115, 112, 97, 110]), .string (ByteArray.mk #[116, 114, 97, 110, 115, 105, 101, 110, 116]), .string (ByteArray.mk #[112, 101, 114, 115, 105, 115, 116, 101, 110, 116])]) (e := 9) rfl (fun w => by kernel_rfl) rfl ?_)
      intro W8 b9 hN10
      have hb11 : W8.heap[b9]? = some (.cells #[.string (ByteArray.mk #[108, 105, 102, 101, 115, 112, 97, 110]), .string (ByteArray.mk #[116, 114, 97, 110, 115, 105, 101, 110, 116]), .string (ByteArray.mk #[112, 101, 114, 115, 105, 115, 116, 101, 110, 116])] 9 (0, 0)) := hN10.blk
      refine wl_op rfl (op_assign rfl rfl ?_)
      refine (wl_done (then_norm ?_))
      refine WC.sub [(2, .slice (some ⟨b9, 0, none⟩) 3 3)] ⟨rfl, trivial⟩ ?_
      refine wc_ret ?_
      refine (block_ret (then_ret ?_))
      have hB12 : Below w.heap.size w W8 := (below_new (Below.refl _ _) hN10)
      refine ⟨[_], ⟨rfl, trivial⟩, ⟨some ⟨b9, 0, none⟩, 3, 3, ?_, (by rw [hc7]; rfl), hB12⟩⟩
      exact rfl
    · have hc7r := hc7
      have hc7 := of_decide_eq_false hc7
      refine wc_seq ?_
      refine wc_region ?_
      refine wl_op rfl (op_eql rfl rfl rfl ?_)
      refine wl_op rfl (op_assign rfl rfl ?_)
      refine (wl_done (then_norm ?_))
      refine WC.sub [(2, .slice none 0 0), (3, .int .i64 k), (10, .bool (decide (k = 3)))] ⟨rfl, rfl, rfl, trivial⟩ ?_
      refine wc_cond (b := decide (k = 3)) rfl (fun hc13 => ?_) (fun hc13 => ?_)
      · have hc13r := hc13
        have hc13 := of_decide_eq_true hc13
        refine wc_seq ?_
        refine wc_region ?_
        refine wl_op rfl (op_buildSlice (cs := #[.string (ByteArray.mk #[117, 110, 105, 113, 117, 101]), .string (ByteArray.mk #[117, 110, 105, 113, 117, 101]), .string (ByteArray.mk #[109, 117, 108, 116, 105, 112, 108, 101])]) (e := 9) rfl (fun w => by kernel_rfl) rfl ?_)
        intro W14 b15 hN16
        have hb17 : W14.heap[b15]? = some (.cells #[.string (ByteArray.mk #[117, 110, 105, 113, 117, 101]), .string (ByteArray.mk #[117, 110, 105, 113, 117, 101]), .string (ByteArray.mk #[109, 117, 108, 116, 105, 112, 108, 101])] 9 (0, 0)) := hN16.blk
        refine wl_op rfl (op_assign rfl rfl ?_)
        refine (wl_done (then_norm ?_))
        refine wc_ret ?_
        refine (block_ret (then_ret ?_))
        have hB18 : Below w.heap.size w W14 := (below_new (Below.refl _ _) hN16)
        refine ⟨[_], ⟨rfl, trivial⟩, ⟨some ⟨b15, 0, none⟩, 3, 3, ?_, (by rw [hc13]; rfl), hB18⟩⟩
        exact rfl
      · have hc13r := hc13
        have hc13 := of_decide_eq_false hc13
        refine wc_seq ?_
        refine wc_region ?_
        refine wl_op rfl (op_eql rfl rfl rfl ?_)
        refine wl_op rfl (op_assign rfl rfl ?_)
        refine (wl_done (then_norm ?_))
        refine wc_cond (b := decide (k = 4)) rfl (fun hc19 => ?_) (fun hc19 => ?_)
        · have hc19r := hc19
          have hc19 := of_decide_eq_true hc19
          refine wc_seq ?_
          refine wc_region ?_
          refine wl_op rfl (op_buildSlice (cs := #[.string (ByteArray.mk #[97, 115, 115, 105, 103, 110]), .string (ByteArray.mk #[115, 121, 115, 116, 101, 109]), .string (ByteArray.mk #[117, 115, 101, 114])]) (e := 9) rfl (fun w => by kernel_rfl) rfl ?_)
          intro W20 b21 hN22
          have hb23 : W20.heap[b21]? = some (.cells #[.string (ByteArray.mk #[97, 115, 115, 105, 103, 110]), .string (ByteArray.mk #[115, 121, 115, 116, 101, 109]), .string (ByteArray.mk #[117, 115, 101, 114])] 9 (0, 0)) := hN22.blk
          refine wl_op rfl (op_assign rfl rfl ?_)
          refine (wl_done (then_norm ?_))
          refine wc_ret ?_
          refine (block_ret (then_ret ?_))
          have hB24 : Below w.heap.size w W20 := (below_new (Below.refl _ _) hN22)
          refine ⟨[_], ⟨rfl, trivial⟩, ⟨some ⟨b21, 0, none⟩, 3, 3, ?_, (by rw [hc19]; rfl), hB24⟩⟩
          exact rfl
        · have hc19r := hc19
          have hc19 := of_decide_eq_false hc19
          refine wc_seq ?_
          refine wc_region ?_
          refine wl_op rfl (op_eql rfl rfl rfl ?_)
          refine wl_op rfl (op_assign rfl rfl ?_)
          refine (wl_done (then_norm ?_))
          refine wc_cond (b := decide (k = 5)) rfl (fun hc25 => ?_) (fun hc25 => ?_)
          · have hc25r := hc25
            have hc25 := of_decide_eq_true hc25
            refine wc_seq ?_
            refine wc_region ?_
            refine wl_op rfl (op_buildSlice (cs := #[.string (ByteArray.mk #[114, 101, 116, 97, 105, 110]), .string (ByteArray.mk #[114, 101, 116, 97, 105, 110]), .string (ByteArray.mk #[102, 111, 114, 103, 101, 116])]) (e := 9) rfl (fun w => by kernel_rfl) rfl ?_)
            intro W26 b27 hN28
            have hb29 : W26.heap[b27]? = some (.cells #[.string (ByteArray.mk #[114, 101, 116, 97, 105, 110]), .string (ByteArray.mk #[114, 101, 116, 97, 105, 110]), .string (ByteArray.mk #[102, 111, 114, 103, 101, 116])] 9 (0, 0)) := hN28.blk
            refine wl_op rfl (op_assign rfl rfl ?_)
            refine (wl_done (then_norm ?_))
            refine WC.sub [(2, .slice (some ⟨b27, 0, none⟩) 3 3)] ⟨rfl, trivial⟩ ?_
            refine wc_ret ?_
            refine (block_ret (then_ret ?_))
            have hB30 : Below w.heap.size w W26 := (below_new (Below.refl _ _) hN28)
            refine ⟨[_], ⟨rfl, trivial⟩, ⟨some ⟨b27, 0, none⟩, 3, 3, ?_, (by rw [hc25]; rfl), hB30⟩⟩
            exact rfl
          · have hc25r := hc25
            have hc25 := of_decide_eq_false hc25
            refine wc_seq ?_
            refine wc_region ?_
            refine wl_op rfl (op_eql rfl rfl rfl ?_)
            refine wl_op rfl (op_assign rfl rfl ?_)
            refine (wl_done (then_norm ?_))
            refine WC.sub [(2, .slice none 0 0), (3, .int .i64 k), (19, .bool (decide (k = 6)))] ⟨rfl, rfl, rfl, trivial⟩ ?_
            refine wc_cond (b := decide (k = 6)) rfl (fun hc31 => ?_) (fun hc31 => ?_)
            · have hc31r := hc31
              have hc31 := of_decide_eq_true hc31
              refine wc_seq ?_
              refine wc_region ?_
              refine wl_op rfl (op_buildSlice (cs := #[.string (ByteArray.mk #[112, 114, 111, 99, 101, 115, 115]), .string (ByteArray.mk #[109, 97, 112]), .string (ByteArray.mk #[100, 101, 102, 97, 117, 108, 116]), .string (ByteArray.mk #[109, 97, 110, 97, 103, 101, 114])]) (e := 9) rfl (fun w => by kernel_rfl) rfl ?_)
              intro W32 b33 hN34
              have hb35 : W32.heap[b33]? = some (.cells #[.string (ByteArray.mk #[112, 114, 111, 99, 101, 115, 115]), .string (ByteArray.mk #[109, 97, 112]), .string (ByteArray.mk #[100, 101, 102, 97, 117, 108, 116]), .string (ByteArray.mk #[109, 97, 110, 97, 103, 101, 114])] 9 (0, 0)) := hN34.blk
              refine wl_op rfl (op_assign rfl rfl ?_)
              refine (wl_done (then_norm ?_))
              refine wc_ret ?_
              refine (block_ret (then_ret ?_))
              have hB36 : Below w.heap.size w W32 := (below_new (Below.refl _ _) hN34)
              refine ⟨[_], ⟨rfl, trivial⟩, ⟨some ⟨b33, 0, none⟩, 4, 4, ?_, (by rw [hc31]; rfl), hB36⟩⟩
              exact rfl
            · have hc31r := hc31
              have hc31 := of_decide_eq_false hc31
              refine wc_seq ?_
              refine wc_region ?_
              refine wl_op rfl (op_eql rfl rfl rfl ?_)
              refine wl_op rfl (op_assign rfl rfl ?_)
              refine (wl_done (then_norm ?_))
              refine wc_cond (b := decide (k = 7)) rfl (fun hc37 => ?_) (fun hc37 => ?_)
              · have hc37r := hc37
                have hc37 := of_decide_eq_true hc37
                refine wc_seq ?_
                refine wc_region ?_
                refine wl_op rfl (op_buildSlice (cs := #[.string (ByteArray.mk #[97, 99, 116, 105, 118, 97, 116, 101]), .string (ByteArray.mk #[101, 120, 112, 108, 105, 99, 105, 116]), .string (ByteArray.mk #[105, 109, 112, 108, 105, 99, 105, 116])]) (e := 9) rfl (fun w => by kernel_rfl) rfl ?_)
                intro W38 b39 hN40
                have hb41 : W38.heap[b39]? = some (.cells #[.string (ByteArray.mk #[97, 99, 116, 105, 118, 97, 116, 101]), .string (ByteArray.mk #[101, 120, 112, 108, 105, 99, 105, 116]), .string (ByteArray.mk #[105, 109, 112, 108, 105, 99, 105, 116])] 9 (0, 0)) := hN40.blk
                refine wl_op rfl (op_assign rfl rfl ?_)
                refine (wl_done (then_norm ?_))
                refine wc_ret ?_
                refine (block_ret (then_ret ?_))
                have hB42 : Below w.heap.size w W38 := (below_new (Below.refl _ _) hN40)
                refine ⟨[_], ⟨rfl, trivial⟩, ⟨some ⟨b39, 0, none⟩, 3, 3, ?_, (by rw [hc37]; rfl), hB42⟩⟩
                exact rfl
              · have hc37r := hc37
                have hc37 := of_decide_eq_false hc37
                refine wc_seq ?_
                refine wc_region ?_
                refine wl_op rfl (op_eql rfl rfl rfl ?_)
                refine wl_op rfl (op_assign rfl rfl ?_)
                refine (wl_done (then_norm ?_))
                refine wc_cond (b := decide (k = 8)) rfl (fun hc43 => ?_) (fun hc43 => ?_)
                · have hc43r := hc43
                  have hc43 := of_decide_eq_true hc43
                  refine wc_seq ?_
                  refine wc_region ?_
                  refine wl_op rfl (op_buildSlice (cs := #[.string (ByteArray.mk #[114, 101, 98, 105, 110, 100]), .string (ByteArray.mk #[116, 114, 97, 110, 115, 112, 97, 114, 101, 110, 116]), .string (ByteArray.mk #[107, 101, 101, 112]), .string (ByteArray.mk #[110, 101, 118, 101, 114])]) (e := 9) rfl (fun w => by kernel_rfl) rfl ?_)
                  intro W44 b45 hN46
                  have hb47 : W44.heap[b45]? = some (.cells #[.string (ByteArray.mk #[114, 101, 98, 105, 110, 100]), .string (ByteArray.mk #[116, 114, 97, 110, 115, 112, 97, 114, 101, 110, 116]), .string (ByteArray.mk #[107, 101, 101, 112]), .string (ByteArray.mk #[110, 101, 118, 101, 114])] 9 (0, 0)) := hN46.blk
                  refine wl_op rfl (op_assign rfl rfl ?_)
                  refine (wl_done (then_norm ?_))
                  refine WC.sub [(2, .slice (some ⟨b45, 0, none⟩) 4 4)] ⟨rfl, trivial⟩ ?_
                  refine wc_ret ?_
                  refine (block_ret (then_ret ?_))
                  have hB48 : Below w.heap.size w W44 := (below_new (Below.refl _ _) hN46)
                  refine ⟨[_], ⟨rfl, trivial⟩, ⟨some ⟨b45, 0, none⟩, 4, 4, ?_, (by rw [hc43]; rfl), hB48⟩⟩
                  exact rfl
                · have hc43r := hc43
                  have hc43 := of_decide_eq_false hc43
                  refine wc_seq ?_
                  refine wc_region ?_
                  refine wl_op rfl (op_eql rfl rfl rfl ?_)
                  refine wl_op rfl (op_assign rfl rfl ?_)
                  refine (wl_done (then_norm ?_))
                  refine WC.sub [(2, .slice none 0 0), (3, .int .i64 k), (28, .bool (decide (k = 9)))] ⟨rfl, rfl, rfl, trivial⟩ ?_
                  refine wc_cond (b := decide (k = 9)) rfl (fun hc49 => ?_) (fun hc49 => ?_)
                  · have hc49r := hc49
                    have hc49 := of_decide_eq_true hc49
                    refine wc_seq ?_
                    refine wc_region ?_
                    refine wl_op rfl (op_buildSlice (cs := #[.string (ByteArray.mk #[99, 101, 114, 116, 97, 105, 110, 116, 121]), .string (ByteArray.mk #[115, 101, 110, 116]), .string (ByteArray.mk #[110, 111, 110, 101]), .string (ByteArray.mk #[115, 101, 114, 118, 101, 114]), .string (ByteArray.mk #[100, 111, 110, 101])]) (e := 9) rfl (fun w => by kernel_rfl) rfl ?_)
                    intro W50 b51 hN52
                    have hb53 : W50.heap[b51]? = some (.cells #[.string (ByteArray.mk #[99, 101, 114, 116, 97, 105, 110, 116, 121]), .string (ByteArray.mk #[115, 101, 110, 116]), .string (ByteArray.mk #[110, 111, 110, 101]), .string (ByteArray.mk #[115, 101, 114, 118, 101, 114]), .string (ByteArray.mk #[100, 111, 110, 101])] 9 (0, 0)) := hN52.blk
                    refine wl_op rfl (op_assign rfl rfl ?_)
                    refine (wl_done (then_norm ?_))
                    refine wc_ret ?_
                    refine (block_ret (then_ret ?_))
                    have hB54 : Below w.heap.size w W50 := (below_new (Below.refl _ _) hN52)
                    refine ⟨[_], ⟨rfl, trivial⟩, ⟨some ⟨b51, 0, none⟩, 5, 5, ?_, (by rw [hc49]; rfl), hB54⟩⟩
                    exact rfl
                  · have hc49r := hc49
                    have hc49 := of_decide_eq_false hc49
                    refine wc_seq ?_
                    refine wc_region ?_
                    refine wl_op rfl (op_eql rfl rfl rfl ?_)
                    refine wl_op rfl (op_assign rfl rfl ?_)
                    refine (wl_done (then_norm ?_))
                    refine wc_cond (b := decide (k = 10)) rfl (fun hc55 => ?_) (fun hc55 => ?_)
                    · have hc55r := hc55
                      have hc55 := of_decide_eq_true hc55
                      refine wc_seq ?_
                      refine wc_region ?_
                      refine wl_op rfl (op_buildSlice (cs := #[.string (ByteArray.mk #[108, 105, 109, 105, 116])]) (e := 9) rfl (fun w => by kernel_rfl) rfl ?_)
                      intro W56 b57 hN58
                      have hb59 : W56.heap[b57]? = some (.cells #[.string (ByteArray.mk #[108, 105, 109, 105, 116])] 9 (0, 0)) := hN58.blk
                      refine wl_op rfl (op_assign rfl rfl ?_)
                      refine (wl_done (then_norm ?_))
                      refine wc_ret ?_
                      refine (block_ret (then_ret ?_))
                      have hB60 : Below w.heap.size w W56 := (below_new (Below.refl _ _) hN58)
                      refine ⟨[_], ⟨rfl, trivial⟩, ⟨some ⟨b57, 0, none⟩, 1, 1, ?_, (by rw [hc55]; rfl), hB60⟩⟩
                      exact rfl
                    · have hc55r := hc55
                      have hc55 := of_decide_eq_false hc55
                      refine wc_seq ?_
                      refine wc_region ?_
                      refine wl_op rfl (op_eql rfl rfl rfl ?_)
                      refine wl_op rfl (op_assign rfl rfl ?_)
                      refine (wl_done (then_norm ?_))
                      refine wc_cond (b := decide (k = 11)) rfl (fun hc61 => ?_) (fun hc61 => ?_)
                      · have hc61r := hc61
                        have hc61 := of_decide_eq_true hc61
                        refine wc_seq ?_
                        refine wc_region ?_
                        refine wl_op rfl (op_buildSlice (cs := #[.string (ByteArray.mk #[114, 111, 117, 116, 101]), .string (ByteArray.mk #[100, 105, 114, 101, 99, 116]), .string (ByteArray.mk #[102, 111, 114, 119, 97, 114, 100]), .string (ByteArray.mk #[115, 116, 111, 114, 101])]) (e := 9) rfl (fun w => by kernel_rfl) rfl ?_)
                        intro W62 b63 hN64
                        have hb65 : W62.heap[b63]? = some (.cells #[.string (ByteArray.mk #[114, 111, 117, 116, 101]), .string (ByteArray.mk #[100, 105, 114, 101, 99, 116]), .string (ByteArray.mk #[102, 111, 114, 119, 97, 114, 100]), .string (ByteArray.mk #[115, 116, 111, 114, 101])] 9 (0, 0)) := hN64.blk
                        refine wl_op rfl (op_assign rfl rfl ?_)
                        refine (wl_done (then_norm ?_))
                        refine WC.sub [(2, .slice (some ⟨b63, 0, none⟩) 4 4)] ⟨rfl, trivial⟩ ?_
                        refine wc_ret ?_
                        refine (block_ret (then_ret ?_))
                        have hB66 : Below w.heap.size w W62 := (below_new (Below.refl _ _) hN64)
                        refine ⟨[_], ⟨rfl, trivial⟩, ⟨some ⟨b63, 0, none⟩, 4, 4, ?_, (by rw [hc61]; rfl), hB66⟩⟩
                        exact rfl
                      · have hc61r := hc61
                        have hc61 := of_decide_eq_false hc61
                        refine wc_seq ?_
                        refine wc_region ?_
                        refine wl_op rfl (op_eql rfl rfl rfl ?_)
                        refine wl_op rfl (op_assign rfl rfl ?_)
                        refine (wl_done (then_norm ?_))
                        refine WC.sub [(2, .slice none 0 0), (3, .int .i64 k), (37, .bool (decide (k = 12)))] ⟨rfl, rfl, rfl, trivial⟩ ?_
                        refine wc_cond (b := decide (k = 12)) rfl (fun hc67 => ?_) (fun hc67 => ?_)
                        · have hc67r := hc67
                          have hc67 := of_decide_eq_true hc67
                          refine wc_seq ?_
                          refine wc_region ?_
                          refine wl_op rfl (op_buildSlice (cs := #[.string (ByteArray.mk #[112, 114, 105, 111, 114, 105, 116, 121])]) (e := 9) rfl (fun w => by kernel_rfl) rfl ?_)
                          intro W68 b69 hN70
                          have hb71 : W68.heap[b69]? = some (.cells #[.string (ByteArray.mk #[112, 114, 105, 111, 114, 105, 116, 121])] 9 (0, 0)) := hN70.blk
                          refine wl_op rfl (op_assign rfl rfl ?_)
                          refine (wl_done (then_norm ?_))
                          refine wc_ret ?_
                          refine (block_ret (then_ret ?_))
                          have hB72 : Below w.heap.size w W68 := (below_new (Below.refl _ _) hN70)
                          refine ⟨[_], ⟨rfl, trivial⟩, ⟨some ⟨b69, 0, none⟩, 1, 1, ?_, (by rw [hc67]; rfl), hB72⟩⟩
                          exact rfl
                        · have hc67r := hc67
                          have hc67 := of_decide_eq_false hc67
                          refine wc_seq ?_
                          refine wc_region ?_
                          refine wl_op rfl (op_eql rfl rfl rfl ?_)
                          refine wl_op rfl (op_assign rfl rfl ?_)
                          refine (wl_done (then_norm ?_))
                          refine wc_cond (b := decide (k = 13)) rfl (fun hc73 => ?_) (fun hc73 => ?_)
                          · have hc73r := hc73
                            have hc73 := of_decide_eq_true hc73
                            refine wc_seq ?_
                            refine wc_region ?_
                            refine wl_op rfl (op_buildSlice (cs := #[.string (ByteArray.mk #[111, 114, 100, 101, 114]), .string (ByteArray.mk #[97, 110, 121]), .string (ByteArray.mk #[116, 105, 109, 101]), .string (ByteArray.mk #[112, 114, 105, 111, 114, 105, 116, 121]), .string (ByteArray.mk #[100, 101, 97, 100, 108, 105, 110, 101])]) (e := 9) rfl (fun w => by kernel_rfl) rfl ?_)
                            intro W74 b75 hN76
                            have hb77 : W74.heap[b75]? = some (.cells #[.string (ByteArray.mk #[111, 114, 100, 101, 114]), .string (ByteArray.mk #[97, 110, 121]), .string (ByteArray.mk #[116, 105, 109, 101]), .string (ByteArray.mk #[112, 114, 105, 111, 114, 105, 116, 121]), .string (ByteArray.mk #[100, 101, 97, 100, 108, 105, 110, 101])] 9 (0, 0)) := hN76.blk
                            refine wl_op rfl (op_assign rfl rfl ?_)
                            refine (wl_done (then_norm ?_))
                            refine wc_ret ?_
                            refine (block_ret (then_ret ?_))
                            have hB78 : Below w.heap.size w W74 := (below_new (Below.refl _ _) hN76)
                            refine ⟨[_], ⟨rfl, trivial⟩, ⟨some ⟨b75, 0, none⟩, 5, 5, ?_, (by rw [hc73]; rfl), hB78⟩⟩
                            exact rfl
                          · have hc73r := hc73
                            have hc73 := of_decide_eq_false hc73
                            refine wc_skip ?_
                            refine (block_norm (then_norm ?_))
                            refine wc_seq ?_
                            refine wc_region ?_
                            refine wl_op rfl (op_assign rfl rfl ?_)
                            refine (wl_done (then_norm ?_))
                            refine wc_ret ?_
                            refine ⟨[_], ⟨rfl, trivial⟩, ⟨none, 0, 0, ?_, (by omega), (Below.refl _ _)⟩⟩
                            exact rfl

theorem valid_no {a b : Int} (h : isB a = false) : validB ⟨a, b⟩ = false := by unfold validB; simp [h]
theorem valid_10 {b : Int} : validB ⟨10, b⟩ = (decide (0 ≤ b) && decide (b ≤ 1000000)) := by
  have e : validB ⟨10, b⟩ = ((isB 10 && decide (leastI 10 ≤ b)) && decide (b ≤ mostI 10)) := rfl
  rw [e, show isB 10 = true by decide, show leastI 10 = 0 by decide, show mostI 10 = 1000000 by decide]; rfl
theorem valid_12 {b : Int} : validB ⟨12, b⟩ = (decide (0 ≤ b) && decide (b ≤ 100)) := by
  have e : validB ⟨12, b⟩ = ((isB 12 && decide (leastI 12 ≤ b)) && decide (b ≤ mostI 12)) := rfl
  rw [e, show isB 12 = true by decide, show leastI 12 = 0 by decide, show mostI 12 = 100 by decide]; rfl
theorem valid_else {a b : Int} (h : isB a = true) (h1 : ¬ a = 10) (h2 : ¬ a = 12) {n : Nat} (hn : n = wordsN a + 1) : validB ⟨a, b⟩ = (decide (1 ≤ b) && decide (b < ((n : Nat) : Int))) := by
  obtain ⟨g1, g2⟩ := isB_iff.1 h
  subst hn
  have hk : a = 1 ∨ a = 2 ∨ a = 3 ∨ a = 4 ∨ a = 5 ∨ a = 6 ∨ a = 7 ∨ a = 8 ∨ a = 9 ∨ a = 11 ∨ a = 13 := by omega
  have e : validB ⟨a, b⟩ = ((isB a && decide (leastI a ≤ b)) && decide (b ≤ mostI a)) := rfl
  rw [e, h]
  have e1 : leastI a = 1 := by rcases hk with rfl | rfl | rfl | rfl | rfl | rfl | rfl | rfl | rfl | rfl | rfl <;> decide
  have e2 : mostI a = wordsN a := by rcases hk with rfl | rfl | rfl | rfl | rfl | rfl | rfl | rfl | rfl | rfl | rfl <;> decide
  rw [e1, e2, Bool.true_and, Bool.eq_iff_iff]
  simp only [Bool.and_eq_true, decide_eq_true_eq]
  omega

theorem rValid_spec {w : World} {a b : Int} : Ret Try.prog 26 #[.agg #[.int .i64 a, .int .i64 b]] w (fun v w' => v = .bool (validB ⟨a, b⟩) ∧ Below w.heap.size w w') := by
  refine ret_of (args := [.agg #[.int .i64 a, .int .i64 b]]) Try.func26 rfl Try.ntmps26 rfl (rs := [.tmp 2]) rfl ?_
  refine wc_seq ?_
  refine wc_region ?_
  refine wl_op rfl (op_box rfl rfl ?_)
  intro W1 b2 hN3
  have hb4 : W1.heap[b2]? = some (.cells #[.int .i64 a, .int .i64 b] 46 (0, 0)) := hN3.blk
  refine wl_op rfl (op_assign rfl rfl ?_)
  refine (wl_done (then_norm ?_))
  refine wc_seq ?_
  refine wc_block ?_
  refine wc_seq ?_
  refine wc_region ?_
  refine wl_op rfl (op_fieldAddr rfl fa46_0 rfl ?_)
  refine wl_op rfl (op_load1 (v := .int .i64 a) rfl agg3 (cell_blk hb4 rfl) rfl ?_)
  refine wl_op rfl (op_call ent64 rfl (Kind_spec) rfl ?_)
  rintro _ W5 ⟨rfl, hE6⟩
  refine wl_op rfl (op_not rfl rfl ?_)
  refine wl_op rfl (op_assign rfl rfl ?_)
  refine (wl_done (then_norm ?_))
  refine wc_cond (b := !(isB a)) rfl (fun hc7 => ?_) (fun hc7 => ?_)
  · have hv0 : isB a = false := by simpa using hc7
    refine wc_seq ?_
    refine wc_region ?_
    refine wl_op rfl (op_assign rfl rfl ?_)
    refine (wl_done (then_norm ?_))
    refine WC.sub [(1, .pointer (some ⟨b2, 0, none⟩)), (2, .bool false)] ⟨rfl, rfl, trivial⟩ ?_
    refine wc_ret ?_
    refine (block_ret (then_ret ?_))
    have hB8 : Below w.heap.size w W5 := (below_step (below_new (Below.refl _ _) hN3) hE6)
    refine ⟨[_], ⟨rfl, trivial⟩, ⟨?_, hB8⟩⟩
    refine congrArg Value.bool (Eq.symm ?_)
    exact valid_no hv0
  · have hv0 : isB a = true := by simpa using hc7
    refine wc_seq ?_
    refine wc_region ?_
    refine wl_op rfl (op_fieldAddr rfl fa46_0 rfl ?_)
    have hb9 : W5.heap[b2]? = some (.cells #[.int .i64 a, .int .i64 b] 46 (0, 0)) := (blk_ext hb4 hE6)
    refine wl_op rfl (op_load1 (v := .int .i64 a) rfl agg3 (cell_blk hb9 rfl) rfl ?_)
    refine wl_op rfl (op_eql rfl rfl rfl ?_)
    refine wl_op rfl (op_assign rfl rfl ?_)
    refine (wl_done (then_norm ?_))
    refine WC.sub [(1, .pointer (some ⟨b2, 0, none⟩)), (2, .bool false), (8, .bool (decide (a = 10)))] ⟨rfl, rfl, rfl, trivial⟩ ?_
    refine wc_cond (b := decide (a = 10)) rfl (fun hc10 => ?_) (fun hc10 => ?_)
    · have hc10r := hc10
      have hc10 := of_decide_eq_true hc10
      refine wc_seq ?_
      refine wc_text [(1, .pointer (some ⟨b2, 0, none⟩))] ⟨rfl, trivial⟩ [fun v _ => v = .pointer (some ⟨b2, 0 + 1, none⟩), fun v _ => v = .int .i64 b, fun v _ => v = .bool (decide (0 ≤ b)), fun v _ => v = .bool (decide (0 ≤ b)), fun v _ => v = (bif (decide (0 ≤ b)) then (.pointer (some ⟨b2, 0 + 1, none⟩)) else undef), fun v _ => v = (bif (decide (0 ≤ b)) then (.int .i64 b) else undef), fun v _ => v = (bif (decide (0 ≤ b)) then (.bool (decide (b ≤ 1000000))) else undef), fun v _ => v = .bool ((decide (0 ≤ b)) && (decide (b ≤ 1000000))), fun v _ => v = .bool ((decide (0 ≤ b)) && (decide (b ≤ 1000000)))] [[], [0], [1], [2], [3], [3, 4], [3, 5], [3, 6], [7]] [8] rfl rfl rfl ⟨fun _ _ _ _ h => h, fun _ _ _ _ h => h, fun _ _ _ _ h => h, fun _ _ _ _ h => h, fun _ _ _ _ h => h, fun _ _ _ _ h => h, fun _ _ _ _ h => h, fun _ _ _ _ h => h, fun _ _ _ _ h => h, trivial⟩ ⟨?_, ?_, ?_, ?_, ?_, ?_, ?_, ?_, ?_, trivial⟩ ?_
      · intro W11 hW12
        refine gather_nil ?_
        refine opg_none rfl ?_
        exact op_fieldAddr rfl fa46_1 rfl ⟨told rfl rfl rfl, (Below.refl _ _)⟩
      · intro W11 hW12
        rintro _ rfl
        refine gather_nil ?_
        refine opg_none rfl ?_
        have hb15 : W11.heap[b2]? = some (.cells #[.int .i64 a, .int .i64 b] 46 (0, 0)) := (blk_ext hb9 hW12)
        exact op_load1 (v := .int .i64 b) rfl agg3 (cell_blk hb15 rfl) rfl ⟨told rfl rfl rfl, (Below.refl _ _)⟩
      · intro W11 hW12
        rintro _ rfl
        refine gather_nil ?_
        refine opg_none rfl ?_
        exact op_geq rfl rfl rfl ⟨told rfl rfl rfl, (Below.refl _ _)⟩
      · intro W11 hW12
        rintro _ rfl
        refine gather_nil ?_
        refine opg_none rfl ?_
        exact op_move rfl rfl ⟨told rfl rfl rfl, (Below.refl _ _)⟩
      · intro W11 hW12
        rintro _ rfl
        refine gather_nil ?_
        refine opg_t1 rfl rfl (fun hg16 => ?_) (fun h => by rw [h, cond_false])
        exact op_fieldAddr rfl fa46_1 rfl ⟨told rfl rfl (by rw [hg16, cond_true]), (Below.refl _ _)⟩
      · intro W11 hW12
        rintro _ rfl
        intro v17 (hv18 : v17 = bif (decide (0 ≤ b)) then (.pointer (some ⟨b2, 0 + 1, none⟩)) else undef)
        refine gather_nil ?_
        refine opg_t1 rfl rfl (fun hg19 => ?_) (fun h => by rw [h, cond_false])
        have hd20 := of_decide_eq_true hg19
        obtain rfl : v17 = .pointer (some ⟨b2, 0 + 1, none⟩) := by rw [hv18, hg19, cond_true]
        have hb21 : W11.heap[b2]? = some (.cells #[.int .i64 a, .int .i64 b] 46 (0, 0)) := (blk_ext hb9 hW12)
        exact op_load1 (v := .int .i64 b) rfl agg3 (cell_blk hb21 rfl) rfl ⟨told rfl rfl (by rw [hg19, cond_true]), (Below.refl _ _)⟩
      · intro W11 hW12
        rintro _ rfl
        intro v22 (hv23 : v22 = bif (decide (0 ≤ b)) then (.int .i64 b) else undef)
        refine gather_nil ?_
        refine opg_t1 rfl rfl (fun hg24 => ?_) (fun h => by rw [h, cond_false])
        have hd25 := of_decide_eq_true hg24
        obtain rfl : v22 = .int .i64 b := by rw [hv23, hg24, cond_true]
        exact op_leq rfl rfl rfl ⟨told rfl rfl (by rw [hg24, cond_true]), (Below.refl _ _)⟩
      · intro W11 hW12
        rintro _ rfl
        intro v26 (hv27 : v26 = bif (decide (0 ≤ b)) then (.bool (decide (b ≤ 1000000))) else undef)
        refine gather_nil ?_
        refine opg_none rfl ?_
        exact op_and rfl rfl rfl (fun h => by rw [hv27, h, cond_true]) rfl ⟨told rfl rfl rfl, (Below.refl _ _)⟩
      · intro W11 hW12
        rintro _ rfl
        refine gather_nil ?_
        refine opg_none rfl ?_
        exact op_assign rfl rfl ⟨told rfl rfl rfl, (Below.refl _ _)⟩
      intro W28 hW29
      rintro _ rfl
      refine gather_nil ?_
      refine (then_norm ?_)
      refine wc_ret ?_
      refine (block_ret (then_ret ?_))
      have hB30 : Below w.heap.size w W28 := (below_step (below_step (below_new (Below.refl _ _) hN3) hE6) hW29)
      refine ⟨[_], ⟨rfl, trivial⟩, ⟨?_, hB30⟩⟩
      refine congrArg Value.bool (Eq.symm ?_)
      rw [hc10]
      exact valid_10
    · have hc10r := hc10
      have hc10 := of_decide_eq_false hc10
      refine wc_seq ?_
      refine wc_region ?_
      refine wl_op rfl (op_fieldAddr rfl fa46_0 rfl ?_)
      refine wl_op rfl (op_load1 (v := .int .i64 a) rfl agg3 (cell_blk hb9 rfl) rfl ?_)
      refine wl_op rfl (op_eql rfl rfl rfl ?_)
      refine wl_op rfl (op_assign rfl rfl ?_)
      refine (wl_done (then_norm ?_))
      refine wc_cond (b := decide (a = 12)) rfl (fun hc31 => ?_) (fun hc31 => ?_)
      · have hc31r := hc31
        have hc31 := of_decide_eq_true hc31
        refine wc_seq ?_
        refine wc_text [(1, .pointer (some ⟨b2, 0, none⟩))] ⟨rfl, trivial⟩ [fun v _ => v = .pointer (some ⟨b2, 0 + 1, none⟩), fun v _ => v = .int .i64 b, fun v _ => v = .bool (decide (0 ≤ b)), fun v _ => v = .bool (decide (0 ≤ b)), fun v _ => v = (bif (decide (0 ≤ b)) then (.pointer (some ⟨b2, 0 + 1, none⟩)) else undef), fun v _ => v = (bif (decide (0 ≤ b)) then (.int .i64 b) else undef), fun v _ => v = (bif (decide (0 ≤ b)) then (.bool (decide (b ≤ 100))) else undef), fun v _ => v = .bool ((decide (0 ≤ b)) && (decide (b ≤ 100))), fun v _ => v = .bool ((decide (0 ≤ b)) && (decide (b ≤ 100)))] [[], [0], [1], [2], [3], [3, 4], [3, 5], [3, 6], [7]] [8] rfl rfl rfl ⟨fun _ _ _ _ h => h, fun _ _ _ _ h => h, fun _ _ _ _ h => h, fun _ _ _ _ h => h, fun _ _ _ _ h => h, fun _ _ _ _ h => h, fun _ _ _ _ h => h, fun _ _ _ _ h => h, fun _ _ _ _ h => h, trivial⟩ ⟨?_, ?_, ?_, ?_, ?_, ?_, ?_, ?_, ?_, trivial⟩ ?_
        · intro W32 hW33
          refine gather_nil ?_
          refine opg_none rfl ?_
          exact op_fieldAddr rfl fa46_1 rfl ⟨told rfl rfl rfl, (Below.refl _ _)⟩
        · intro W32 hW33
          rintro _ rfl
          refine gather_nil ?_
          refine opg_none rfl ?_
          have hb36 : W32.heap[b2]? = some (.cells #[.int .i64 a, .int .i64 b] 46 (0, 0)) := (blk_ext hb9 hW33)
          exact op_load1 (v := .int .i64 b) rfl agg3 (cell_blk hb36 rfl) rfl ⟨told rfl rfl rfl, (Below.refl _ _)⟩
        · intro W32 hW33
          rintro _ rfl
          refine gather_nil ?_
          refine opg_none rfl ?_
          exact op_geq rfl rfl rfl ⟨told rfl rfl rfl, (Below.refl _ _)⟩
        · intro W32 hW33
          rintro _ rfl
          refine gather_nil ?_
          refine opg_none rfl ?_
          exact op_move rfl rfl ⟨told rfl rfl rfl, (Below.refl _ _)⟩
        · intro W32 hW33
          rintro _ rfl
          refine gather_nil ?_
          refine opg_t1 rfl rfl (fun hg37 => ?_) (fun h => by rw [h, cond_false])
          exact op_fieldAddr rfl fa46_1 rfl ⟨told rfl rfl (by rw [hg37, cond_true]), (Below.refl _ _)⟩
        · intro W32 hW33
          rintro _ rfl
          intro v38 (hv39 : v38 = bif (decide (0 ≤ b)) then (.pointer (some ⟨b2, 0 + 1, none⟩)) else undef)
          refine gather_nil ?_
          refine opg_t1 rfl rfl (fun hg40 => ?_) (fun h => by rw [h, cond_false])
          have hd41 := of_decide_eq_true hg40
          obtain rfl : v38 = .pointer (some ⟨b2, 0 + 1, none⟩) := by rw [hv39, hg40, cond_true]
          have hb42 : W32.heap[b2]? = some (.cells #[.int .i64 a, .int .i64 b] 46 (0, 0)) := (blk_ext hb9 hW33)
          exact op_load1 (v := .int .i64 b) rfl agg3 (cell_blk hb42 rfl) rfl ⟨told rfl rfl (by rw [hg40, cond_true]), (Below.refl _ _)⟩
        · intro W32 hW33
          rintro _ rfl
          intro v43 (hv44 : v43 = bif (decide (0 ≤ b)) then (.int .i64 b) else undef)
          refine gather_nil ?_
          refine opg_t1 rfl rfl (fun hg45 => ?_) (fun h => by rw [h, cond_false])
          have hd46 := of_decide_eq_true hg45
          obtain rfl : v43 = .int .i64 b := by rw [hv44, hg45, cond_true]
          exact op_leq rfl rfl rfl ⟨told rfl rfl (by rw [hg45, cond_true]), (Below.refl _ _)⟩
        · intro W32 hW33
          rintro _ rfl
          intro v47 (hv48 : v47 = bif (decide (0 ≤ b)) then (.bool (decide (b ≤ 100))) else undef)
          refine gather_nil ?_
          refine opg_none rfl ?_
          exact op_and rfl rfl rfl (fun h => by rw [hv48, h, cond_true]) rfl ⟨told rfl rfl rfl, (Below.refl _ _)⟩
        · intro W32 hW33
          rintro _ rfl
          refine gather_nil ?_
          refine opg_none rfl ?_
          exact op_assign rfl rfl ⟨told rfl rfl rfl, (Below.refl _ _)⟩
        intro W49 hW50
        rintro _ rfl
        refine gather_nil ?_
        refine (then_norm ?_)
        refine wc_ret ?_
        refine (block_ret (then_ret ?_))
        have hB51 : Below w.heap.size w W49 := (below_step (below_step (below_new (Below.refl _ _) hN3) hE6) hW50)
        refine ⟨[_], ⟨rfl, trivial⟩, ⟨?_, hB51⟩⟩
        refine congrArg Value.bool (Eq.symm ?_)
        rw [hc31]
        exact valid_12
      · have hc31r := hc31
        have hc31 := of_decide_eq_false hc31
        refine wc_skip ?_
        refine (block_norm (then_norm ?_))
        refine wc_seq ?_
        refine wc_draw mixed [(1, .pointer (some ⟨b2, 0, none⟩))] ⟨rfl, trivial⟩ [fun v _ => v = .pointer (some ⟨b2, 0 + 1, none⟩), fun v _ => v = .int .i64 b, fun v _ => v = .bool (decide (1 ≤ b)), fun v _ => v = .bool (decide (1 ≤ b)), fun v _ => v = (bif (decide (1 ≤ b)) then (.pointer (some ⟨b2, 0 + 1, none⟩)) else undef), fun v _ => v = (bif (decide (1 ≤ b)) then (.int .i64 b) else undef), fun v _ => v = (bif (decide (1 ≤ b)) then (.pointer (some ⟨b2, 0 + 0, none⟩)) else undef), fun v _ => v = (bif (decide (1 ≤ b)) then (.int .i64 a) else undef), fun v W => (decide (1 ≤ b)) = true → ∃ (A1 : Option Addr) (n1 c1 : Nat), v = .slice A1 n1 c1 ∧ n1 = wordsN a + 1, fun v _ => v = (bif (decide (1 ≤ b)) then (.int .i64 ((wordsN a + 1 : Nat) : Int)) else undef), fun v _ => v = (bif (decide (1 ≤ b)) then (.bool (decide (b < ((wordsN a + 1 : Nat) : Int)))) else undef), fun v _ => v = .bool ((decide (1 ≤ b)) && (decide (b < ((wordsN a + 1 : Nat) : Int)))), fun v _ => v = .bool ((decide (1 ≤ b)) && (decide (b < ((wordsN a + 1 : Nat) : Int))))] [[], [0], [1], [2], [3], [3, 4], [3], [3, 6], [3, 7], [3, 8], [3, 5, 9], [3, 10], [11]] [12] rfl rfl rfl ⟨fun _ _ _ _ h => h, fun _ _ _ _ h => h, fun _ _ _ _ h => h, fun _ _ _ _ h => h, fun _ _ _ _ h => h, fun _ _ _ _ h => h, fun _ _ _ _ h => h, fun _ _ _ _ h => h, fun _ _ _ _ h => h, fun _ _ _ _ h => h, fun _ _ _ _ h => h, fun _ _ _ _ h => h, fun _ _ _ _ h => h, trivial⟩ ⟨?_, ?_, ?_, ?_, ?_, ?_, ?_, ?_, ?_, ?_, ?_, ?_, ?_, trivial⟩ ?_
        · intro W52 hW53
          refine gather_nil ?_
          refine opg_none rfl ?_
          exact op_fieldAddr rfl fa46_1 rfl ⟨told rfl rfl rfl, (Below.refl _ _)⟩
        · intro W52 hW53
          rintro _ rfl
          refine gather_nil ?_
          refine opg_none rfl ?_
          have hb57 : W52.heap[b2]? = some (.cells #[.int .i64 a, .int .i64 b] 46 (0, 0)) := (blk_ext hb9 hW53)
          exact op_load1 (v := .int .i64 b) rfl agg3 (cell_blk hb57 rfl) rfl ⟨told rfl rfl rfl, (Below.refl _ _)⟩
        · intro W52 hW53
          rintro _ rfl
          refine gather_nil ?_
          refine opg_none rfl ?_
          exact op_geq rfl rfl rfl ⟨told rfl rfl rfl, (Below.refl _ _)⟩
        · intro W52 hW53
          rintro _ rfl
          refine gather_nil ?_
          refine opg_none rfl ?_
          exact op_move rfl rfl ⟨told rfl rfl rfl, (Below.refl _ _)⟩
        · intro W52 hW53
          rintro _ rfl
          refine gather_nil ?_
          refine opg_t1 rfl rfl (fun hg58 => ?_) (fun h => by rw [h, cond_false])
          exact op_fieldAddr rfl fa46_1 rfl ⟨told rfl rfl (by rw [hg58, cond_true]), (Below.refl _ _)⟩
        · intro W52 hW53
          rintro _ rfl
          intro v59 (hv60 : v59 = bif (decide (1 ≤ b)) then (.pointer (some ⟨b2, 0 + 1, none⟩)) else undef)
          refine gather_nil ?_
          refine opg_t1 rfl rfl (fun hg61 => ?_) (fun h => by rw [h, cond_false])
          have hd62 := of_decide_eq_true hg61
          obtain rfl : v59 = .pointer (some ⟨b2, 0 + 1, none⟩) := by rw [hv60, hg61, cond_true]
          have hb63 : W52.heap[b2]? = some (.cells #[.int .i64 a, .int .i64 b] 46 (0, 0)) := (blk_ext hb9 hW53)
          exact op_load1 (v := .int .i64 b) rfl agg3 (cell_blk hb63 rfl) rfl ⟨told rfl rfl (by rw [hg61, cond_true]), (Below.refl _ _)⟩
        · intro W52 hW53
          rintro _ rfl
          refine gather_nil ?_
          refine opg_t1 rfl rfl (fun hg64 => ?_) (fun h => by rw [h, cond_false])
          exact op_fieldAddr rfl fa46_0 rfl ⟨told rfl rfl (by rw [hg64, cond_true]), (Below.refl _ _)⟩
        · intro W52 hW53
          rintro _ rfl
          intro v65 (hv66 : v65 = bif (decide (1 ≤ b)) then (.pointer (some ⟨b2, 0 + 0, none⟩)) else undef)
          refine gather_nil ?_
          refine opg_t1 rfl rfl (fun hg67 => ?_) (fun h => by rw [h, cond_false])
          have hd68 := of_decide_eq_true hg67
          obtain rfl : v65 = .pointer (some ⟨b2, 0 + 0, none⟩) := by rw [hv66, hg67, cond_true]
          have hb69 : W52.heap[b2]? = some (.cells #[.int .i64 a, .int .i64 b] 46 (0, 0)) := (blk_ext hb9 hW53)
          exact op_load1 (v := .int .i64 a) rfl agg3 (cell_blk hb69 rfl) rfl ⟨told rfl rfl (by rw [hg67, cond_true]), (Below.refl _ _)⟩
        · intro W52 hW53
          rintro _ rfl
          intro v70 (hv71 : v70 = bif (decide (1 ≤ b)) then (.int .i64 a) else undef)
          refine gather_nil ?_
          refine opg_t1 rfl rfl (fun hg72 => ?_) (fun h h2 => absurd (h.symm.trans h2) (by decide))
          have hd73 := of_decide_eq_true hg72
          obtain rfl : v70 = .int .i64 a := by rw [hv71, hg72, cond_true]
          refine op_call ent66 rfl (words_spec (isB_iff.1 hv0).1 (isB_iff.1 hv0).2) rfl ?_
          rintro v W3 ⟨A1, n1, c1, rfl, hI, hE⟩
          exact ⟨⟨_, rfl, fun _ => ⟨A1, n1, c1, rfl, hI⟩⟩, hE⟩
        · intro W52 hW53
          rintro _ rfl
          intro v74 hv75
          refine gather_nil ?_
          refine opg_t1 rfl rfl (fun hg76 => ?_) (fun h => by rw [h, cond_false])
          have hd77 := of_decide_eq_true hg76
          obtain ⟨A1, n1, c1, rfl, hI⟩ := hv75 hg76
          subst hI
          exact op_len_slice rfl rfl und77 rfl rfl ⟨told rfl rfl (by rw [hg76, cond_true]), Below.refl _ _⟩
        · intro W52 hW53
          rintro _ rfl
          intro v78 (hv79 : v78 = bif (decide (1 ≤ b)) then (.int .i64 b) else undef)
          intro v80 (hv81 : v80 = bif (decide (1 ≤ b)) then (.int .i64 ((wordsN a + 1 : Nat) : Int)) else undef)
          refine gather_nil ?_
          refine opg_t1 rfl rfl (fun hg82 => ?_) (fun h => by rw [h, cond_false])
          have hd83 := of_decide_eq_true hg82
          obtain rfl : v78 = .int .i64 b := by rw [hv79, hg82, cond_true]
          obtain rfl : v80 = .int .i64 ((wordsN a + 1 : Nat) : Int) := by rw [hv81, hg82, cond_true]
          exact op_lss rfl rfl rfl ⟨told rfl rfl (by rw [hg82, cond_true]), (Below.refl _ _)⟩
        · intro W52 hW53
          rintro _ rfl
          intro v84 (hv85 : v84 = bif (decide (1 ≤ b)) then (.bool (decide (b < ((wordsN a + 1 : Nat) : Int)))) else undef)
          refine gather_nil ?_
          refine opg_none rfl ?_
          exact op_and rfl rfl rfl (fun h => by rw [hv85, h, cond_true]) rfl ⟨told rfl rfl rfl, (Below.refl _ _)⟩
        · intro W52 hW53
          rintro _ rfl
          refine gather_nil ?_
          refine opg_none rfl ?_
          exact op_assign rfl rfl ⟨told rfl rfl rfl, (Below.refl _ _)⟩
        intro W86 hW87
        rintro _ rfl
        refine gather_nil ?_
        refine (then_norm ?_)
        refine wc_ret ?_
        have hB88 : Below w.heap.size w W86 := (below_step (below_step (below_new (Below.refl _ _) hN3) hE6) hW87)
        refine ⟨[_], ⟨rfl, trivial⟩, ⟨?_, hB88⟩⟩
        refine congrArg Value.bool (Eq.symm ?_)
        exact valid_else hv0 hc10 hc31 rfl

theorem rValidSet_spec {w : World} {A : Option Addr} {n c : Nat} {s : List Pol} (hs : RdP w A n s) : Ret Try.prog 28 #[.slice A n c] w (fun v w' => v = .bool (validSet s) ∧ Below w.heap.size w w') := by
  obtain ⟨bs1, os2, hA3, hc4⟩ := hs.flat
  have hln5 := hs.len
  have hbd6 := hs.bd
  have hlen_s := hs.len
  refine ret_of (args := [.slice A n c]) Try.func28 rfl Try.ntmps28 rfl (rs := [.tmp 2]) rfl ?_
  refine wc_seq ?_
  refine wc_region ?_
  refine wl_op rfl (op_assign rfl rfl ?_)
  refine (wl_done (then_norm ?_))
  refine wc_seq ?_
  refine wc_seq ?_
  refine wc_region ?_
  refine wl_op rfl (op_move rfl rfl ?_)
  refine wl_op rfl (op_len_slice rfl rfl und22 rfl rfl ?_)
  refine wl_op rfl (op_move rfl rfl ?_)
  refine (wl_done (then_norm ?_))
  refine wc_block ?_
  refine wc_loop (σ := Nat × World) (fun st_ => [(0, .slice A n c), (2, .bool false), (5, .slice A n c), (6, .int .i64 ((n : Nat) : Int)), (7, .int .i64 (st_.1 : Int))]) (fun st_ => st_.2) (fun st_ => (st_.1 ≤ n) ∧ (∀ i, i < st_.1 → okAt s i = true) ∧ (Below w.heap.size w st_.2)) (fun st_ => n - st_.1) (0, w) ⟨(by first | omega | (dsimp only; omega)), (fun i hi => absurd hi (by omega)), (Below.refl _ _)⟩ ⟨rfl, rfl, rfl, rfl, rfl, trivial⟩ rfl ?_
  rintro ⟨k, W7⟩ ⟨hk, hall, hE8⟩
  dsimp only at hk hall hE8
  refine wc_at [(0, .slice A n c), (2, .bool false), (5, .slice A n c), (6, .int .i64 ((n : Nat) : Int)), (7, .int .i64 (k : Int))] W7 ⟨rfl, rfl, rfl, rfl, rfl, trivial⟩ rfl ?_
  refine wc_seq ?_
  refine wc_region ?_
  refine wl_op rfl (op_lss rfl rfl rfl ?_)
  refine (wl_done (then_norm ?_))
  refine wc_seq ?_
  refine wc_cond (b := decide ((k : Int) < ((n : Nat) : Int))) rfl (fun hc9 => ?_) (fun hc9 => ?_)
  · have hc9r := hc9
    have hc9 := of_decide_eq_true hc9
    refine wc_skip ?_
    refine (then_norm ?_)
    refine wc_seq ?_
    refine wc_block ?_
    refine wc_seq ?_
    refine wc_region ?_
    refine wl_op rfl (op_move rfl rfl ?_)
    obtain ⟨x_s_k, hx_s_k⟩ : ∃ x, s[k]? = some x := ⟨_, List.getElem?_eq_getElem (by have := hs.len; omega)⟩
    refine wl_op rfl (op_indexAddr (j := k) rfl rfl und22 sz46 (hA3 (by omega)) rfl (by omega) rfl ?_)
    have hB10 : Below w.heap.size w W7 := (below_step (Below.refl _ _) hE8)
    refine wl_op rfl (op_loadN (vs := [.int .i64 x_s_k.kind, .int .i64 x_s_k.val]) rfl agg46 sz46 rfl ((hc4 k x_s_k hx_s_k).ext hB10) rfl ?_)
    refine wl_op rfl (op_alloc zero46 rfl ?_)
    intro W11 b12 hN13
    have hb14 : W11.heap[b12]? = some (.cells #[.int .i64 0, .int .i64 0] 46 (0, 0)) := hN13.blk
    refine wl_op rfl (op_assign rfl rfl ?_)
    refine wl_op rfl (op_storeW rfl rfl sz46 hb14 rfl rfl ?_)
    intro W15 hP16 hb17
    have hb17 : W15.heap[b12]? = some (.cells #[.int .i64 x_s_k.kind, .int .i64 x_s_k.val] 46 (0, 0)) := hb17
    refine (wl_done (then_norm ?_))
    refine wc_seq ?_
    obtain ⟨x_s_k_1, hx_s_k_1⟩ : ∃ x, (k - 1 < s.length → s[k - 1]? = some x) := by
      by_cases h : k - 1 < s.length
      · exact ⟨_, fun _ => List.getElem?_eq_getElem h⟩
      · exact ⟨(⟨0, 0⟩ : Pol), fun h1 => absurd h1 h⟩
    refine wc_draw mixed [(0, .slice A n c), (2, .bool false), (5, .slice A n c), (6, .int .i64 ((n : Nat) : Int)), (7, .int .i64 (k : Int)), (8, .bool (decide ((k : Int) < ((n : Nat) : Int)))), (9, .int .i64 (k : Int)), (10, .pointer (some ⟨bs1, os2 + k * 2, none⟩)), (11, .agg #[.int .i64 x_s_k.kind, .int .i64 x_s_k.val]), (4, .pointer (some ⟨b12, 0, none⟩)), (3, .int .i64 (k : Int))] ⟨rfl, rfl, rfl, rfl, rfl, rfl, rfl, rfl, rfl, rfl, rfl, trivial⟩ [fun v _ => v = .agg #[.int .i64 x_s_k.kind, .int .i64 x_s_k.val], fun v _ => v = .bool (validB ⟨x_s_k.kind, x_s_k.val⟩), fun v _ => v = .bool (!(validB ⟨x_s_k.kind, x_s_k.val⟩)), fun v _ => v = .bool (!(validB ⟨x_s_k.kind, x_s_k.val⟩)), fun v _ => v = (bif (!(!(validB ⟨x_s_k.kind, x_s_k.val⟩))) then (.int .i64 (k : Int)) else undef), fun v _ => v = (bif (!(!(validB ⟨x_s_k.kind, x_s_k.val⟩))) then (.bool (decide (0 < (k : Int)))) else undef), fun v _ => v = (bif (!(!(validB ⟨x_s_k.kind, x_s_k.val⟩))) then (.bool (decide (0 < (k : Int)))) else undef), fun v _ => v = (bif ((!(!(validB ⟨x_s_k.kind, x_s_k.val⟩))) && (decide (0 < (k : Int)))) then (.slice A n c) else undef), fun v _ => v = (bif ((!(!(validB ⟨x_s_k.kind, x_s_k.val⟩))) && (decide (0 < (k : Int)))) then (.int .i64 (k : Int)) else undef), fun v _ => v = (bif ((!(!(validB ⟨x_s_k.kind, x_s_k.val⟩))) && (decide (0 < (k : Int)))) then (.int .i64 ((k : Int) - 1)) else undef), fun v _ => v = (bif ((!(!(validB ⟨x_s_k.kind, x_s_k.val⟩))) && (decide (0 < (k : Int)))) then (.pointer (some ⟨bs1, os2 + (k - 1) * 2, none⟩)) else undef), fun v _ => v = (bif ((!(!(validB ⟨x_s_k.kind, x_s_k.val⟩))) && (decide (0 < (k : Int)))) then (.pointer (some ⟨bs1, os2 + (k - 1) * 2 + 0, none⟩)) else undef), fun v _ => v = (bif ((!(!(validB ⟨x_s_k.kind, x_s_k.val⟩))) && (decide (0 < (k : Int)))) then (.int .i64 x_s_k_1.kind) else undef), fun v _ => v = (bif ((!(!(validB ⟨x_s_k.kind, x_s_k.val⟩))) && (decide (0 < (k : Int)))) then (.pointer (some ⟨b12, 0 + 0, none⟩)) else undef), fun v _ => v = (bif ((!(!(validB ⟨x_s_k.kind, x_s_k.val⟩))) && (decide (0 < (k : Int)))) then (.int .i64 x_s_k.kind) else undef), fun v _ => v = (bif ((!(!(validB ⟨x_s_k.kind, x_s_k.val⟩))) && (decide (0 < (k : Int)))) then (.bool (decide (x_s_k.kind ≤ x_s_k_1.kind))) else undef), fun v _ => v = (bif (!(!(validB ⟨x_s_k.kind, x_s_k.val⟩))) then (.bool ((decide (0 < (k : Int))) && (decide (x_s_k.kind ≤ x_s_k_1.kind)))) else undef), fun v _ => v = .bool ((!(validB ⟨x_s_k.kind, x_s_k.val⟩)) || ((decide (0 < (k : Int))) && (decide (x_s_k.kind ≤ x_s_k_1.kind))))] [[], [0], [1], [2], [3], [3, 4], [3, 5], [6], [6], [6, 8], [6, 7, 9], [6, 10], [6, 11], [6], [6, 13], [6, 12, 14], [3, 6, 15], [3, 16]] [0, 1, 2, 3, 17] rfl rfl rfl ⟨fun _ _ _ _ h => h, fun _ _ _ _ h => h, fun _ _ _ _ h => h, fun _ _ _ _ h => h, fun _ _ _ _ h => h, fun _ _ _ _ h => h, fun _ _ _ _ h => h, fun _ _ _ _ h => h, fun _ _ _ _ h => h, fun _ _ _ _ h => h, fun _ _ _ _ h => h, fun _ _ _ _ h => h, fun _ _ _ _ h => h, fun _ _ _ _ h => h, fun _ _ _ _ h => h, fun _ _ _ _ h => h, fun _ _ _ _ h => h, fun _ _ _ _ h => h, trivial⟩ ⟨?_, ?_, ?_, ?_, ?_, ?_, ?_, ?_, ?_, ?_, ?_, ?_, ?_, ?_, ?_, ?_, ?_, ?_, trivial⟩ ?_
    · intro W18 hW19
      refine gather_nil ?_
      refine opg_none rfl ?_
      have hb23 : W18.heap[b12]? = some (.cells #[.int .i64 x_s_k.kind, .int .i64 x_s_k.val] 46 (0, 0)) := (blk_ext hb17 hW19)
      exact op_loadN (vs := [.int .i64 x_s_k.kind, .int .i64 x_s_k.val]) rfl agg46 sz46 rfl (cells_blk hb23) rfl ⟨told rfl rfl rfl, (Below.refl _ _)⟩
    · intro W18 hW19
      rintro _ rfl
      refine gather_nil ?_
      refine opg_none rfl ?_
      refine op_call ent26 rfl (rValid_spec) rfl ?_
      rintro _ W24 ⟨rfl, hE25⟩
      exact ⟨told rfl rfl rfl, hE25⟩
    · intro W18 hW19
      rintro _ rfl
      refine gather_nil ?_
      refine opg_none rfl ?_
      exact op_not rfl rfl ⟨told rfl rfl rfl, (Below.refl _ _)⟩
    · intro W18 hW19
      rintro _ rfl
      refine gather_nil ?_
      refine opg_none rfl ?_
      exact op_move rfl rfl ⟨told rfl rfl rfl, (Below.refl _ _)⟩
    · intro W18 hW19
      rintro _ rfl
      refine gather_nil ?_
      refine opg_f1 rfl rfl (fun hg26 => ?_) (fun h => by rw [h, cond_false])
      exact op_move rfl rfl ⟨told rfl rfl (by rw [hg26, cond_true]), (Below.refl _ _)⟩
    · intro W18 hW19
      rintro _ rfl
      intro v27 (hv28 : v27 = bif (!(!(validB ⟨x_s_k.kind, x_s_k.val⟩))) then (.int .i64 (k : Int)) else undef)
      refine gather_nil ?_
      refine opg_f1 rfl rfl (fun hg29 => ?_) (fun h => by rw [h, cond_false])
      obtain rfl : v27 = .int .i64 (k : Int) := by rw [hv28, hg29, cond_true]
      exact op_gtr rfl rfl rfl ⟨told rfl rfl (by rw [hg29, cond_true]), (Below.refl _ _)⟩
    · intro W18 hW19
      rintro _ rfl
      intro v30 (hv31 : v30 = bif (!(!(validB ⟨x_s_k.kind, x_s_k.val⟩))) then (.bool (decide (0 < (k : Int)))) else undef)
      refine gather_nil ?_
      refine opg_f1 rfl rfl (fun hg32 => ?_) (fun h => by rw [h, cond_false])
      obtain rfl : v30 = .bool (decide (0 < (k : Int))) := by rw [hv31, hg32, cond_true]
      exact op_move rfl rfl ⟨told rfl rfl (by rw [hg32, cond_true]), (Below.refl _ _)⟩
    · intro W18 hW19
      intro v33 (hv34 : v33 = bif (!(!(validB ⟨x_s_k.kind, x_s_k.val⟩))) then (.bool (decide (0 < (k : Int)))) else undef)
      refine gather_nil ?_
      refine opg_t rfl rfl hv34 (fun hg35 => ?_) (fun h => by rw [h, cond_false])
      obtain rfl : v33 = .bool (decide (0 < (k : Int))) := by rw [hv34, (and_l hg35), cond_true]
      exact op_move rfl rfl ⟨told rfl rfl (by rw [hg35, cond_true]), (Below.refl _ _)⟩
    · intro W18 hW19
      intro v36 (hv37 : v36 = bif (!(!(validB ⟨x_s_k.kind, x_s_k.val⟩))) then (.bool (decide (0 < (k : Int)))) else undef)
      refine gather_nil ?_
      refine opg_t rfl rfl hv37 (fun hg38 => ?_) (fun h => by rw [h, cond_false])
      obtain rfl : v36 = .bool (decide (0 < (k : Int))) := by rw [hv37, (and_l hg38), cond_true]
      exact op_move rfl rfl ⟨told rfl rfl (by rw [hg38, cond_true]), (Below.refl _ _)⟩
    · intro W18 hW19
      intro v39 (hv40 : v39 = bif (!(!(validB ⟨x_s_k.kind, x_s_k.val⟩))) then (.bool (decide (0 < (k : Int)))) else undef)
      intro v41 (hv42 : v41 = bif ((!(!(validB ⟨x_s_k.kind, x_s_k.val⟩))) && (decide (0 < (k : Int)))) then (.int .i64 (k : Int)) else undef)
      refine gather_nil ?_
      refine opg_t rfl rfl hv40 (fun hg43 => ?_) (fun h => by rw [h, cond_false])
      have hd44 := of_decide_eq_true (and_r hg43)
      obtain rfl : v39 = .bool (decide (0 < (k : Int))) := by rw [hv40, (and_l hg43), cond_true]
      obtain rfl : v41 = .int .i64 (k : Int) := by rw [hv42, hg43, cond_true]
      exact op_sub (r := (k : Int) - 1) rfl rfl (by omega) (by omega) rfl ⟨told rfl rfl (by rw [hg43, cond_true]), (Below.refl _ _)⟩
    · intro W18 hW19
      intro v45 (hv46 : v45 = bif (!(!(validB ⟨x_s_k.kind, x_s_k.val⟩))) then (.bool (decide (0 < (k : Int)))) else undef)
      intro v47 (hv48 : v47 = bif ((!(!(validB ⟨x_s_k.kind, x_s_k.val⟩))) && (decide (0 < (k : Int)))) then (.slice A n c) else undef)
      intro v49 (hv50 : v49 = bif ((!(!(validB ⟨x_s_k.kind, x_s_k.val⟩))) && (decide (0 < (k : Int)))) then (.int .i64 ((k : Int) - 1)) else undef)
      refine gather_nil ?_
      refine opg_t rfl rfl hv46 (fun hg51 => ?_) (fun h => by rw [h, cond_false])
      have hd52 := of_decide_eq_true (and_r hg51)
      obtain rfl : v45 = .bool (decide (0 < (k : Int))) := by rw [hv46, (and_l hg51), cond_true]
      obtain rfl : v47 = .slice A n c := by rw [hv48, hg51, cond_true]
      obtain rfl : v49 = .int .i64 ((k : Int) - 1) := by rw [hv50, hg51, cond_true]
      exact op_indexAddr (j := k - 1) rfl rfl und22 sz46 (hA3 (by omega)) (by omega) (by omega) rfl ⟨told rfl rfl (by rw [hg51, cond_true]), (Below.refl _ _)⟩
    · intro W18 hW19
      intro v53 (hv54 : v53 = bif (!(!(validB ⟨x_s_k.kind, x_s_k.val⟩))) then (.bool (decide (0 < (k : Int)))) else undef)
      intro v55 (hv56 : v55 = bif ((!(!(validB ⟨x_s_k.kind, x_s_k.val⟩))) && (decide (0 < (k : Int)))) then (.pointer (some ⟨bs1, os2 + (k - 1) * 2, none⟩)) else undef)
      refine gather_nil ?_
      refine opg_t rfl rfl hv54 (fun hg57 => ?_) (fun h => by rw [h, cond_false])
      obtain rfl : v53 = .bool (decide (0 < (k : Int))) := by rw [hv54, (and_l hg57), cond_true]
      obtain rfl : v55 = .pointer (some ⟨bs1, os2 + (k - 1) * 2, none⟩) := by rw [hv56, hg57, cond_true]
      exact op_fieldAddr rfl fa46_0 rfl ⟨told rfl rfl (by rw [hg57, cond_true]), (Below.refl _ _)⟩
    · intro W18 hW19
      intro v58 (hv59 : v58 = bif (!(!(validB ⟨x_s_k.kind, x_s_k.val⟩))) then (.bool (decide (0 < (k : Int)))) else undef)
      intro v60 (hv61 : v60 = bif ((!(!(validB ⟨x_s_k.kind, x_s_k.val⟩))) && (decide (0 < (k : Int)))) then (.pointer (some ⟨bs1, os2 + (k - 1) * 2 + 0, none⟩)) else undef)
      refine gather_nil ?_
      refine opg_t rfl rfl hv59 (fun hg62 => ?_) (fun h => by rw [h, cond_false])
      have hd63 := of_decide_eq_true (and_r hg62)
      obtain rfl : v58 = .bool (decide (0 < (k : Int))) := by rw [hv59, (and_l hg62), cond_true]
      obtain rfl : v60 = .pointer (some ⟨bs1, os2 + (k - 1) * 2 + 0, none⟩) := by rw [hv61, hg62, cond_true]
      have hB64 : Below w.heap.size w W18 := (below_step (hP16.below (below_new hB10 hN13) (le_new hB10 hN13)) hW19)
      exact op_load1 (v := .int .i64 x_s_k_1.kind) rfl agg3 (((hc4 (k - 1) x_s_k_1 (hx_s_k_1 (by have := hs.len; omega))).ext hB64).at (i := 0) rfl) rfl ⟨told rfl rfl (by rw [hg62, cond_true]), (Below.refl _ _)⟩
    · intro W18 hW19
      intro v65 (hv66 : v65 = bif (!(!(validB ⟨x_s_k.kind, x_s_k.val⟩))) then (.bool (decide (0 < (k : Int)))) else undef)
      refine gather_nil ?_
      refine opg_t rfl rfl hv66 (fun hg67 => ?_) (fun h => by rw [h, cond_false])
      obtain rfl : v65 = .bool (decide (0 < (k : Int))) := by rw [hv66, (and_l hg67), cond_true]
      exact op_fieldAddr rfl fa46_0 rfl ⟨told rfl rfl (by rw [hg67, cond_true]), (Below.refl _ _)⟩
    · intro W18 hW19
      intro v68 (hv69 : v68 = bif (!(!(validB ⟨x_s_k.kind, x_s_k.val⟩))) then (.bool (decide (0 < (k : Int)))) else undef)
      intro v70 (hv71 : v70 = bif ((!(!(validB ⟨x_s_k.kind, x_s_k.val⟩))) && (decide (0 < (k : Int)))) then (.pointer (some ⟨b12, 0 + 0, none⟩)) else undef)
      refine gather_nil ?_
      refine opg_t rfl rfl hv69 (fun hg72 => ?_) (fun h => by rw [h, cond_false])
      have hd73 := of_decide_eq_true (and_r hg72)
      obtain rfl : v68 = .bool (decide (0 < (k : Int))) := by rw [hv69, (and_l hg72), cond_true]
      obtain rfl : v70 = .pointer (some ⟨b12, 0 + 0, none⟩) := by rw [hv71, hg72, cond_true]
      have hb74 : W18.heap[b12]? = some (.cells #[.int .i64 x_s_k.kind, .int .i64 x_s_k.val] 46 (0, 0)) := (blk_ext hb17 hW19)
      exact op_load1 (v := .int .i64 x_s_k.kind) rfl agg3 (cell_blk hb74 rfl) rfl ⟨told rfl rfl (by rw [hg72, cond_true]), (Below.refl _ _)⟩
    · intro W18 hW19
      intro v75 (hv76 : v75 = bif (!(!(validB ⟨x_s_k.kind, x_s_k.val⟩))) then (.bool (decide (0 < (k : Int)))) else undef)
      intro v77 (hv78 : v77 = bif ((!(!(validB ⟨x_s_k.kind, x_s_k.val⟩))) && (decide (0 < (k : Int)))) then (.int .i64 x_s_k_1.kind) else undef)
      intro v79 (hv80 : v79 = bif ((!(!(validB ⟨x_s_k.kind, x_s_k.val⟩))) && (decide (0 < (k : Int)))) then (.int .i64 x_s_k.kind) else undef)
      refine gather_nil ?_
      refine opg_t rfl rfl hv76 (fun hg81 => ?_) (fun h => by rw [h, cond_false])
      have hd82 := of_decide_eq_true (and_r hg81)
      obtain rfl : v75 = .bool (decide (0 < (k : Int))) := by rw [hv76, (and_l hg81), cond_true]
      obtain rfl : v77 = .int .i64 x_s_k_1.kind := by rw [hv78, hg81, cond_true]
      obtain rfl : v79 = .int .i64 x_s_k.kind := by rw [hv80, hg81, cond_true]
      exact op_geq rfl rfl rfl ⟨told rfl rfl (by rw [hg81, cond_true]), (Below.refl _ _)⟩
    · intro W18 hW19
      rintro _ rfl
      intro v83 (hv84 : v83 = bif (!(!(validB ⟨x_s_k.kind, x_s_k.val⟩))) then (.bool (decide (0 < (k : Int)))) else undef)
      intro v85 (hv86 : v85 = bif ((!(!(validB ⟨x_s_k.kind, x_s_k.val⟩))) && (decide (0 < (k : Int)))) then (.bool (decide (x_s_k.kind ≤ x_s_k_1.kind))) else undef)
      refine gather_nil ?_
      refine opg_f1 rfl rfl (fun hg87 => ?_) (fun h => by rw [h, cond_false])
      obtain rfl : v83 = .bool (decide (0 < (k : Int))) := by rw [hv84, hg87, cond_true]
      exact op_and rfl rfl rfl (fun h => by rw [hv86, (and_i hg87 h), cond_true]) rfl ⟨told rfl rfl (by rw [hg87, cond_true]), (Below.refl _ _)⟩
    · intro W18 hW19
      rintro _ rfl
      intro v88 (hv89 : v88 = bif (!(!(validB ⟨x_s_k.kind, x_s_k.val⟩))) then (.bool ((decide (0 < (k : Int))) && (decide (x_s_k.kind ≤ x_s_k_1.kind)))) else undef)
      refine gather_nil ?_
      refine opg_none rfl ?_
      exact op_or rfl rfl rfl (fun h => by rw [hv89, (not_i h), cond_true]) rfl ⟨told rfl rfl rfl, (Below.refl _ _)⟩
    intro W90 hW91
    rintro _ rfl
    rintro _ rfl
    rintro _ rfl
    rintro _ rfl
    rintro _ rfl
    refine gather_nil ?_
    refine (then_norm ?_)
    refine wc_cond (b := (!(validB ⟨x_s_k.kind, x_s_k.val⟩)) || ((decide (0 < (k : Int))) && (decide (x_s_k.kind ≤ x_s_k_1.kind)))) rfl (fun hc92 => ?_) (fun hc92 => ?_)
    · have hok : okAt s k = false := by rw [okAt_eq hx_s_k hx_s_k_1, hc92]; rfl
      refine wc_seq ?_
      refine wc_region ?_
      refine wl_op rfl (op_assign rfl rfl ?_)
      refine (wl_done (then_norm ?_))
      refine wc_ret ?_
      refine (block_ret (then_ret (then_ret (block_ret (then_ret ?_)))))
      have hB93 : Below w.heap.size w W90 := (below_step (hP16.below (below_new hB10 hN13) (le_new hB10 hN13)) hW91)
      refine ⟨[_], ⟨rfl, trivial⟩, ⟨?_, hB93⟩⟩
      exact congrArg Value.bool (validSet_false (by omega) hok).symm
    · have hok : okAt s k = true := by rw [okAt_eq hx_s_k hx_s_k_1, hc92]; rfl
      refine wc_skip ?_
      refine (block_norm (then_norm ?_))
      refine wc_region ?_
      refine wl_op rfl (op_add (r := ((k + 1 : Nat) : Int)) rfl rfl (by omega) (by omega) rfl ?_)
      refine wl_op rfl (op_move rfl rfl ?_)
      refine (wl_done (then_norm ?_))
      have hB94 : Below w.heap.size w W90 := (below_step (hP16.below (below_new hB10 hN13) (le_new hB10 hN13)) hW91)
      refine ⟨((k + 1), W90), ⟨(by first | omega | (dsimp only; omega)), (all_succ hall hok), hB94⟩, ?_, ⟨rfl, rfl, rfl, rfl, rfl, trivial⟩, rfl⟩
      · dsimp only; omega
  · have hc9r := hc9
    have hc9 := of_decide_eq_false hc9
    refine wc_exit ?_
    refine (then_exit (then_exit (block_here (then_norm ?_))))
    refine wc_seq ?_
    refine wc_region ?_
    refine wl_op rfl (op_assign rfl rfl ?_)
    refine (wl_done (then_norm ?_))
    refine wc_ret ?_
    have hB95 : Below w.heap.size w W7 := (below_step (Below.refl _ _) hE8)
    refine ⟨[_], ⟨rfl, trivial⟩, ⟨?_, hB95⟩⟩
    exact congrArg Value.bool (validSet_iff.2 fun i hi => hall i (by omega)).symm

theorem find_take {s : List Pol} {k : Int} (h : ∀ (i : Nat) (x : Pol), i < s.length → s[i]? = some x → ¬ x.kind = k) : valueOf s k = leastI k := by
  unfold valueOf
  have hf : s.find? (fun p => decide (p.kind = k)) = none := by
    rw [List.find?_eq_none]
    intro p hp
    obtain ⟨j, hj, rfl⟩ := List.getElem_of_mem hp
    simp only [decide_eq_true_eq]
    exact h j _ hj (List.getElem?_eq_getElem hj)
  rw [hf]
theorem find_first {s : List Pol} {k : Int} {j : Nat} {y : Pol} (h : ∀ (i : Nat) (x : Pol), i < j → s[i]? = some x → ¬ x.kind = k) (hy : s[j]? = some y) (hk : y.kind = k) : valueOf s k = y.val := by
  unfold valueOf
  have hf : s.find? (fun p => decide (p.kind = k)) = some y := by
    rw [List.find?_eq_some_iff_getElem]
    have hj := (List.getElem?_eq_some_iff.1 hy)
    obtain ⟨hj, rfl⟩ := hj
    refine ⟨by simpa using hk, j, hj, rfl, fun i hi => ?_⟩
    have := h i _ hi (List.getElem?_eq_getElem (by omega))
    simp [this]
  rw [hf]
theorem least_10 {k : Int} (h : (decide (k = 10) || decide (k = 12)) = true) : leastI k = 0 := by
  have : k = 10 ∨ k = 12 := by simpa using h
  rcases this with rfl | rfl <;> decide
theorem least_else {k : Int} (h : (decide (k = 10) || decide (k = 12)) = false) : leastI k = 1 := by
  have : ¬ k = 10 ∧ ¬ k = 12 := by simpa using h
  unfold leastI; rw [if_neg this.1, if_neg this.2]

theorem rvalue_spec {w : World} {A : Option Addr} {n c : Nat} {s : List Pol} {q : Int} (hs : RdP w A n s) : Ret Try.prog 48 #[.slice A n c, .int .i64 q] w (fun v w' => v = .int .i64 (valueOf s q) ∧ Below w.heap.size w w') := by
  obtain ⟨bs1, os2, hA3, hc4⟩ := hs.flat
  have hln5 := hs.len
  have hbd6 := hs.bd
  have hlen_s := hs.len
  refine ret_of (args := [.slice A n c, .int .i64 q]) Try.func48 rfl Try.ntmps48 rfl (rs := [.tmp 4]) rfl ?_
  refine wc_seq ?_
  refine wc_region ?_
  refine wl_op rfl (op_assign rfl rfl ?_)
  refine (wl_done (then_norm ?_))
  refine wc_seq ?_
  refine wc_seq ?_
  refine wc_region ?_
  refine wl_op rfl (op_move rfl rfl ?_)
  refine wl_op rfl (op_len_slice rfl rfl und22 rfl rfl ?_)
  refine wl_op rfl (op_move rfl rfl ?_)
  refine (wl_done (then_norm ?_))
  refine wc_block ?_
  refine wc_loop (σ := Nat × World) (fun st_ => [(1, .int .i64 q), (4, .int .i64 0), (7, .slice A n c), (8, .int .i64 ((n : Nat) : Int)), (9, .int .i64 (st_.1 : Int))]) (fun st_ => st_.2) (fun st_ => (st_.1 ≤ n) ∧ (∀ (i : Nat) (x : Pol), i < st_.1 → s[i]? = some x → ¬ x.kind = q) ∧ (Below w.heap.size w st_.2)) (fun st_ => n - st_.1) (0, w) ⟨(by first | omega | (dsimp only; omega)), (fun i x hi => absurd hi (by omega)), (Below.refl _ _)⟩ ⟨rfl, rfl, rfl, rfl, rfl, trivial⟩ rfl ?_
  rintro ⟨k, W7⟩ ⟨hk, hall, hE8⟩
  dsimp only at hk hall hE8
  refine wc_at [(1, .int .i64 q), (4, .int .i64 0), (7, .slice A n c), (8, .int .i64 ((n : Nat) : Int)), (9, .int .i64 (k : Int))] W7 ⟨rfl, rfl, rfl, rfl, rfl, trivial⟩ rfl ?_
  refine wc_seq ?_
  refine wc_region ?_
  refine wl_op rfl (op_lss rfl rfl rfl ?_)
  refine (wl_done (then_norm ?_))
  refine wc_seq ?_
  refine wc_cond (b := decide ((k : Int) < ((n : Nat) : Int))) rfl (fun hc9 => ?_) (fun hc9 => ?_)
  · have hc9r := hc9
    have hc9 := of_decide_eq_true hc9
    refine wc_skip ?_
    refine (then_norm ?_)
    refine wc_seq ?_
    refine wc_block ?_
    refine wc_seq ?_
    refine wc_region ?_
    obtain ⟨x_s_k, hx_s_k⟩ : ∃ x, s[k]? = some x := ⟨_, List.getElem?_eq_getElem (by have := hs.len; omega)⟩
    refine wl_op rfl (op_indexAddr (j := k) rfl rfl und22 sz46 (hA3 (by omega)) rfl (by omega) rfl ?_)
    have hB10 : Below w.heap.size w W7 := (below_step (Below.refl _ _) hE8)
    refine wl_op rfl (op_loadN (vs := [.int .i64 x_s_k.kind, .int .i64 x_s_k.val]) rfl agg46 sz46 rfl ((hc4 k x_s_k hx_s_k).ext hB10) rfl ?_)
    refine wl_op rfl (op_alloc zero46 rfl ?_)
    intro W11 b12 hN13
    have hb14 : W11.heap[b12]? = some (.cells #[.int .i64 0, .int .i64 0] 46 (0, 0)) := hN13.blk
    refine wl_op rfl (op_storeW rfl rfl sz46 hb14 rfl rfl ?_)
    intro W15 hP16 hb17
    have hb17 : W15.heap[b12]? = some (.cells #[.int .i64 x_s_k.kind, .int .i64 x_s_k.val] 46 (0, 0)) := hb17
    refine (wl_done (then_norm ?_))
    refine wc_seq ?_
    refine wc_region ?_
    refine wl_op rfl (op_fieldAddr rfl fa46_0 rfl ?_)
    refine wl_op rfl (op_load1 (v := .int .i64 x_s_k.kind) rfl agg3 (cell_blk hb17 rfl) rfl ?_)
    refine wl_op rfl (op_move rfl rfl ?_)
    refine wl_op rfl (op_eql rfl rfl rfl ?_)
    refine (wl_done (then_norm ?_))
    refine wc_cond (b := decide (x_s_k.kind = q)) rfl (fun hc18 => ?_) (fun hc18 => ?_)
    · have hc18r := hc18
      have hc18 := of_decide_eq_true hc18
      refine wc_seq ?_
      refine wc_region ?_
      refine wl_op rfl (op_fieldAddr rfl fa46_1 rfl ?_)
      refine wl_op rfl (op_load1 (v := .int .i64 x_s_k.val) rfl agg3 (cell_blk hb17 rfl) rfl ?_)
      refine wl_op rfl (op_assign rfl rfl ?_)
      refine (wl_done (then_norm ?_))
      refine wc_ret ?_
      refine (block_ret (then_ret (then_ret (block_ret (then_ret ?_)))))
      have hB19 : Below w.heap.size w W15 := (hP16.below (below_new hB10 hN13) (le_new hB10 hN13))
      refine ⟨[_], ⟨rfl, trivial⟩, ⟨?_, hB19⟩⟩
      exact congrArg (Value.int .i64) (find_first hall hx_s_k hc18).symm
    · have hc18r := hc18
      have hc18 := of_decide_eq_false hc18
      refine wc_skip ?_
      refine (block_norm (then_norm ?_))
      refine wc_region ?_
      refine wl_op rfl (op_add (r := ((k + 1 : Nat) : Int)) rfl rfl (by omega) (by omega) rfl ?_)
      refine wl_op rfl (op_move rfl rfl ?_)
      refine (wl_done (then_norm ?_))
      have hB20 : Below w.heap.size w W15 := (hP16.below (below_new hB10 hN13) (le_new hB10 hN13))
      refine ⟨((k + 1), W15), ⟨(by first | omega | (dsimp only; omega)), (fun i x hi hx => by rcases Nat.lt_or_ge i k with h | h; exact hall i x h hx; have e : i = k := (by dsimp only at hi; omega); subst e; rw [hx_s_k] at hx; cases hx; exact hc18), hB20⟩, ?_, ⟨rfl, rfl, rfl, rfl, rfl, trivial⟩, rfl⟩
      · dsimp only; omega
  · have hc9r := hc9
    have hc9 := of_decide_eq_false hc9
    refine wc_exit ?_
    refine (then_exit (then_exit (block_here (then_norm ?_))))
    refine wc_seq ?_
    refine wc_seq ?_
    refine wc_text [(1, .int .i64 q), (4, .int .i64 0)] ⟨rfl, rfl, trivial⟩ [fun v _ => v = .int .i64 q, fun v _ => v = .bool (decide (q = 10)), fun v _ => v = .bool (decide (q = 10)), fun v _ => v = (bif (!(decide (q = 10))) then (.int .i64 q) else undef), fun v _ => v = (bif (!(decide (q = 10))) then (.bool (decide (q = 12))) else undef), fun v _ => v = .bool ((decide (q = 10)) || (decide (q = 12)))] [[], [0], [1], [2], [2, 3], [2, 4]] [5] rfl rfl rfl ⟨fun _ _ _ _ h => h, fun _ _ _ _ h => h, fun _ _ _ _ h => h, fun _ _ _ _ h => h, fun _ _ _ _ h => h, fun _ _ _ _ h => h, trivial⟩ ⟨?_, ?_, ?_, ?_, ?_, ?_, trivial⟩ ?_
    · intro W21 hW22
      refine gather_nil ?_
      refine opg_none rfl ?_
      exact op_move rfl rfl ⟨told rfl rfl rfl, (Below.refl _ _)⟩
    · intro W21 hW22
      rintro _ rfl
      refine gather_nil ?_
      refine opg_none rfl ?_
      exact op_eql rfl rfl rfl ⟨told rfl rfl rfl, (Below.refl _ _)⟩
    · intro W21 hW22
      rintro _ rfl
      refine gather_nil ?_
      refine opg_none rfl ?_
      exact op_move rfl rfl ⟨told rfl rfl rfl, (Below.refl _ _)⟩
    · intro W21 hW22
      rintro _ rfl
      refine gather_nil ?_
      refine opg_f1 rfl rfl (fun hg23 => ?_) (fun h => by rw [h, cond_false])
      exact op_move rfl rfl ⟨told rfl rfl (by rw [hg23, cond_true]), (Below.refl _ _)⟩
    · intro W21 hW22
      rintro _ rfl
      intro v24 (hv25 : v24 = bif (!(decide (q = 10))) then (.int .i64 q) else undef)
      refine gather_nil ?_
      refine opg_f1 rfl rfl (fun hg26 => ?_) (fun h => by rw [h, cond_false])
      have hd27 := of_decide_eq_false (not_t hg26)
      obtain rfl : v24 = .int .i64 q := by rw [hv25, hg26, cond_true]
      exact op_eql rfl rfl rfl ⟨told rfl rfl (by rw [hg26, cond_true]), (Below.refl _ _)⟩
    · intro W21 hW22
      rintro _ rfl
      intro v28 (hv29 : v28 = bif (!(decide (q = 10))) then (.bool (decide (q = 12))) else undef)
      refine gather_nil ?_
      refine opg_none rfl ?_
      exact op_or rfl rfl rfl (fun h => by rw [hv29, (not_i h), cond_true]) rfl ⟨told rfl rfl rfl, (Below.refl _ _)⟩
    intro W30 hW31
    rintro _ rfl
    refine gather_nil ?_
    refine (then_norm ?_)
    refine wc_cond (b := (decide (q = 10)) || (decide (q = 12))) rfl (fun hc32 => ?_) (fun hc32 => ?_)
    · refine wc_seq ?_
      refine wc_region ?_
      refine wl_op rfl (op_assign rfl rfl ?_)
      refine (wl_done (then_norm ?_))
      refine wc_ret ?_
      refine (then_ret ?_)
      have hB33 : Below w.heap.size w W30 := (below_step (below_step (Below.refl _ _) hE8) hW31)
      refine ⟨[_], ⟨rfl, trivial⟩, ⟨?_, hB33⟩⟩
      exact congrArg (Value.int .i64) ((find_take (fun i x hi => hall i x (by omega))).trans (least_10 hc32)).symm
    · refine wc_skip ?_
      refine (then_norm ?_)
      refine wc_seq ?_
      refine wc_region ?_
      refine wl_op rfl (op_assign rfl rfl ?_)
      refine (wl_done (then_norm ?_))
      refine wc_ret ?_
      have hB34 : Below w.heap.size w W30 := (below_step (below_step (Below.refl _ _) hE8) hW31)
      refine ⟨[_], ⟨rfl, trivial⟩, ⟨?_, hB34⟩⟩
      exact congrArg (Value.int .i64) ((find_take (fun i x hi => hall i x (by omega))).trans (least_else hc32)).symm

theorem rhas_spec {w : World} {A : Option Addr} {n c : Nat} {s : List Pol} {q : Int} (hs : RdP w A n s) : Ret Try.prog 49 #[.slice A n c, .int .i64 q] w (fun v w' => v = .bool (s.any (fun p => decide (p.kind = q))) ∧ Below w.heap.size w w') := by
  obtain ⟨bs1, os2, hA3, hc4⟩ := hs.flat
  have hln5 := hs.len
  have hbd6 := hs.bd
  have hlen_s := hs.len
  refine ret_of (args := [.slice A n c, .int .i64 q]) Try.func49 rfl Try.ntmps49 rfl (rs := [.tmp 4]) rfl ?_
  refine wc_seq ?_
  refine wc_region ?_
  refine wl_op rfl (op_assign rfl rfl ?_)
  refine (wl_done (then_norm ?_))
  refine wc_seq ?_
  refine wc_seq ?_
  refine wc_region ?_
  refine wl_op rfl (op_move rfl rfl ?_)
  refine wl_op rfl (op_len_slice rfl rfl und22 rfl rfl ?_)
  refine wl_op rfl (op_move rfl rfl ?_)
  refine (wl_done (then_norm ?_))
  refine wc_block ?_
  refine wc_loop (σ := Nat × World) (fun st_ => [(1, .int .i64 q), (4, .bool false), (7, .slice A n c), (8, .int .i64 ((n : Nat) : Int)), (9, .int .i64 (st_.1 : Int))]) (fun st_ => st_.2) (fun st_ => (st_.1 ≤ n) ∧ (∀ (i : Nat) (x : Pol), i < st_.1 → s[i]? = some x → ¬ x.kind = q) ∧ (Below w.heap.size w st_.2)) (fun st_ => n - st_.1) (0, w) ⟨(by first | omega | (dsimp only; omega)), (fun i x hi => absurd hi (by omega)), (Below.refl _ _)⟩ ⟨rfl, rfl, rfl, rfl, rfl, trivial⟩ rfl ?_
  rintro ⟨k, W7⟩ ⟨hk, hall, hE8⟩
  dsimp only at hk hall hE8
  refine wc_at [(1, .int .i64 q), (4, .bool false), (7, .slice A n c), (8, .int .i64 ((n : Nat) : Int)), (9, .int .i64 (k : Int))] W7 ⟨rfl, rfl, rfl, rfl, rfl, trivial⟩ rfl ?_
  refine wc_seq ?_
  refine wc_region ?_
  refine wl_op rfl (op_lss rfl rfl rfl ?_)
  refine (wl_done (then_norm ?_))
  refine wc_seq ?_
  refine wc_cond (b := decide ((k : Int) < ((n : Nat) : Int))) rfl (fun hc9 => ?_) (fun hc9 => ?_)
  · have hc9r := hc9
    have hc9 := of_decide_eq_true hc9
    refine wc_skip ?_
    refine (then_norm ?_)
    refine wc_seq ?_
    refine wc_block ?_
    refine wc_seq ?_
    refine wc_region ?_
    obtain ⟨x_s_k, hx_s_k⟩ : ∃ x, s[k]? = some x := ⟨_, List.getElem?_eq_getElem (by have := hs.len; omega)⟩
    refine wl_op rfl (op_indexAddr (j := k) rfl rfl und22 sz46 (hA3 (by omega)) rfl (by omega) rfl ?_)
    have hB10 : Below w.heap.size w W7 := (below_step (Below.refl _ _) hE8)
    refine wl_op rfl (op_loadN (vs := [.int .i64 x_s_k.kind, .int .i64 x_s_k.val]) rfl agg46 sz46 rfl ((hc4 k x_s_k hx_s_k).ext hB10) rfl ?_)
    refine wl_op rfl (op_alloc zero46 rfl ?_)
    intro W11 b12 hN13
    have hb14 : W11.heap[b12]? = some (.cells #[.int .i64 0, .int .i64 0] 46 (0, 0)) := hN13.blk
    refine wl_op rfl (op_storeW rfl rfl sz46 hb14 rfl rfl ?_)
    intro W15 hP16 hb17
    have hb17 : W15.heap[b12]? = some (.cells #[.int .i64 x_s_k.kind, .int .i64 x_s_k.val] 46 (0, 0)) := hb17
    refine (wl_done (then_norm ?_))
    refine wc_seq ?_
    refine wc_region ?_
    refine wl_op rfl (op_fieldAddr rfl fa46_0 rfl ?_)
    refine wl_op rfl (op_load1 (v := .int .i64 x_s_k.kind) rfl agg3 (cell_blk hb17 rfl) rfl ?_)
    refine wl_op rfl (op_move rfl rfl ?_)
    refine wl_op rfl (op_eql rfl rfl rfl ?_)
    refine (wl_done (then_norm ?_))
    refine wc_cond (b := decide (x_s_k.kind = q)) rfl (fun hc18 => ?_) (fun hc18 => ?_)
    · have hc18r := hc18
      have hc18 := of_decide_eq_true hc18
      refine wc_seq ?_
      refine wc_region ?_
      refine wl_op rfl (op_assign rfl rfl ?_)
      refine (wl_done (then_norm ?_))
      refine wc_ret ?_
      refine (block_ret (then_ret (then_ret (block_ret (then_ret ?_)))))
      have hB19 : Below w.heap.size w W15 := (hP16.below (below_new hB10 hN13) (le_new hB10 hN13))
      refine ⟨[_], ⟨rfl, trivial⟩, ⟨?_, hB19⟩⟩
      refine congrArg Value.bool (Eq.symm ?_)
      exact any_of_get hx_s_k (decide_eq_true hc18)
    · have hc18r := hc18
      have hc18 := of_decide_eq_false hc18
      refine wc_skip ?_
      refine (block_norm (then_norm ?_))
      refine wc_region ?_
      refine wl_op rfl (op_add (r := ((k + 1 : Nat) : Int)) rfl rfl (by omega) (by omega) rfl ?_)
      refine wl_op rfl (op_move rfl rfl ?_)
      refine (wl_done (then_norm ?_))
      have hB20 : Below w.heap.size w W15 := (hP16.below (below_new hB10 hN13) (le_new hB10 hN13))
      refine ⟨((k + 1), W15), ⟨(by first | omega | (dsimp only; omega)), (fun i x hi hx => by rcases Nat.lt_or_ge i k with h | h; exact hall i x h hx; have e : i = k := (by dsimp only at hi; omega); subst e; rw [hx_s_k] at hx; cases hx; exact hc18), hB20⟩, ?_, ⟨rfl, rfl, rfl, rfl, rfl, trivial⟩, rfl⟩
      · dsimp only; omega
  · have hc9r := hc9
    have hc9 := of_decide_eq_false hc9
    refine wc_exit ?_
    refine (then_exit (then_exit (block_here (then_norm ?_))))
    refine wc_seq ?_
    refine wc_region ?_
    refine wl_op rfl (op_assign rfl rfl ?_)
    refine (wl_done (then_norm ?_))
    refine wc_ret ?_
    have hB21 : Below w.heap.size w W7 := (below_step (Below.refl _ _) hE8)
    refine ⟨[_], ⟨rfl, trivial⟩, ⟨?_, hB21⟩⟩
    refine congrArg Value.bool (Eq.symm ?_)
    exact any_of_take (fun i x hi hx => decide_eq_false (hall i x (by omega) hx))

theorem rpart_spec {w : World} {A : Option Addr} {n c : Nat} {s : List Pol} {lo hi : Int} (hs : RdP w A n s) (hn : n ≤ 1000) : Ret Try.prog 47 #[.slice A n c, .int .i64 lo, .int .i64 hi] w (fun v w' => ∃ (A1 : Option Addr) (n1 c1 : Nat), v = .slice A1 n1 c1 ∧ RdP w' A1 n1 (s.filter (fun p => (decide (lo ≤ p.kind)) && (decide (p.kind ≤ hi)))) ∧ Below w.heap.size w w') := by
  obtain ⟨bs1, os2, hA3, hc4⟩ := hs.flat
  have hln5 := hs.len
  have hbd6 := hs.bd
  have hlen_s := hs.len
  refine ret_of (args := [.slice A n c, .int .i64 lo, .int .i64 hi]) Try.func47 rfl Try.ntmps47 rfl (rs := [.tmp 6]) rfl ?_
  refine wc_seq ?_
  refine wc_region ?_
  refine wl_op rfl (op_assign rfl rfl ?_)
  refine (wl_done (then_norm ?_))
  refine wc_seq ?_
  refine wc_region ?_
  refine wl_op rfl (op_assign rfl rfl ?_)
  refine (wl_done (then_norm ?_))
  refine wc_seq ?_
  refine wc_seq ?_
  refine wc_region ?_
  refine wl_op rfl (op_move rfl rfl ?_)
  refine wl_op rfl (op_len_slice rfl rfl und22 rfl rfl ?_)
  refine wl_op rfl (op_move rfl rfl ?_)
  refine (wl_done (then_norm ?_))
  refine wc_block ?_
  refine wc_loop (σ := Nat × Value × World) (fun st_ => [(1, .int .i64 lo), (2, .int .i64 hi), (6, .slice none 0 0), (7, st_.2.1), (10, .slice A n c), (11, .int .i64 ((n : Nat) : Int)), (12, .int .i64 (st_.1 : Int))]) (fun st_ => st_.2.2) (fun st_ => (st_.1 ≤ n) ∧ (Own encP w.heap.size 46 2 st_.2.2 st_.2.1 ((s.take st_.1).filter (fun p => (decide (lo ≤ p.kind)) && (decide (p.kind ≤ hi))))) ∧ (Below w.heap.size w st_.2.2)) (fun st_ => n - st_.1) (0, (.slice none 0 0), w) ⟨(by first | omega | (dsimp only; omega)), (own_nil _ _ _ _ _), (Below.refl _ _)⟩ ⟨rfl, rfl, rfl, rfl, rfl, rfl, rfl, trivial⟩ rfl ?_
  rintro ⟨k, v, W7⟩ ⟨hk1, hown, hE8⟩
  dsimp only at hk1 hown hE8
  refine wc_at [(1, .int .i64 lo), (2, .int .i64 hi), (6, .slice none 0 0), (7, v), (10, .slice A n c), (11, .int .i64 ((n : Nat) : Int)), (12, .int .i64 (k : Int))] W7 ⟨rfl, rfl, rfl, rfl, rfl, rfl, rfl, trivial⟩ rfl ?_
  refine wc_seq ?_
  refine wc_region ?_
  refine wl_op rfl (op_lss rfl rfl rfl ?_)
  refine (wl_done (then_norm ?_))
  refine wc_seq ?_
  refine wc_cond (b := decide ((k : Int) < ((n : Nat) : Int))) rfl (fun hc9 => ?_) (fun hc9 => ?_)
  · have hc9r := hc9
    have hc9 := of_decide_eq_true hc9
    refine wc_skip ?_
    refine (then_norm ?_)
    refine wc_seq ?_
    refine wc_block ?_
    refine wc_seq ?_
    refine wc_region ?_
    obtain ⟨x_s_k, hx_s_k⟩ : ∃ x, s[k]? = some x := ⟨_, List.getElem?_eq_getElem (by have := hs.len; omega)⟩
    refine wl_op rfl (op_indexAddr (j := k) rfl rfl und22 sz46 (hA3 (by omega)) rfl (by omega) rfl ?_)
    have hB10 : Below w.heap.size w W7 := (below_step (Below.refl _ _) hE8)
    refine wl_op rfl (op_loadN (vs := [.int .i64 x_s_k.kind, .int .i64 x_s_k.val]) rfl agg46 sz46 rfl ((hc4 k x_s_k hx_s_k).ext hB10) rfl ?_)
    refine wl_op rfl (op_alloc zero46 rfl ?_)
    intro W11 b12 hN13
    have hb14 : W11.heap[b12]? = some (.cells #[.int .i64 0, .int .i64 0] 46 (0, 0)) := hN13.blk
    refine wl_op rfl (op_storeW rfl rfl sz46 hb14 rfl rfl ?_)
    intro W15 hP16 hb17
    have hb17 : W15.heap[b12]? = some (.cells #[.int .i64 x_s_k.kind, .int .i64 x_s_k.val] 46 (0, 0)) := hb17
    refine (wl_done (then_norm ?_))
    refine wc_seq ?_
    refine wc_text [(1, .int .i64 lo), (2, .int .i64 hi), (6, .slice none 0 0), (7, v), (10, .slice A n c), (11, .int .i64 ((n : Nat) : Int)), (12, .int .i64 (k : Int)), (13, .bool (decide ((k : Int) < ((n : Nat) : Int)))), (14, .pointer (some ⟨bs1, os2 + k * 2, none⟩)), (15, .agg #[.int .i64 x_s_k.kind, .int .i64 x_s_k.val]), (9, .pointer (some ⟨b12, 0, none⟩))] ⟨rfl, rfl, rfl, rfl, rfl, rfl, rfl, rfl, rfl, rfl, rfl, trivial⟩ [fun v _ => v = .pointer (some ⟨b12, 0 + 0, none⟩), fun v _ => v = .int .i64 x_s_k.kind, fun v _ => v = .int .i64 lo, fun v _ => v = .bool (decide (lo ≤ x_s_k.kind)), fun v _ => v = .bool (decide (lo ≤ x_s_k.kind)), fun v _ => v = (bif (decide (lo ≤ x_s_k.kind)) then (.pointer (some ⟨b12, 0 + 0, none⟩)) else undef), fun v _ => v = (bif (decide (lo ≤ x_s_k.kind)) then (.int .i64 x_s_k.kind) else undef), fun v _ => v = (bif (decide (lo ≤ x_s_k.kind)) then (.int .i64 hi) else undef), fun v _ => v = (bif (decide (lo ≤ x_s_k.kind)) then (.bool (decide (x_s_k.kind ≤ hi))) else undef), fun v _ => v = .bool ((decide (lo ≤ x_s_k.kind)) && (decide (x_s_k.kind ≤ hi)))] [[], [0], [], [1, 2], [3], [4], [4, 5], [4], [4, 6, 7], [4, 8]] [0, 1, 2, 3, 4, 9] rfl rfl rfl ⟨fun _ _ _ _ h => h, fun _ _ _ _ h => h, fun _ _ _ _ h => h, fun _ _ _ _ h => h, fun _ _ _ _ h => h, fun _ _ _ _ h => h, fun _ _ _ _ h => h, fun _ _ _ _ h => h, fun _ _ _ _ h => h, fun _ _ _ _ h => h, trivial⟩ ⟨?_, ?_, ?_, ?_, ?_, ?_, ?_, ?_, ?_, ?_, trivial⟩ ?_
    · intro W18 hW19
      refine gather_nil ?_
      refine opg_none rfl ?_
      exact op_fieldAddr rfl fa46_0 rfl ⟨told rfl rfl rfl, (Below.refl _ _)⟩
    · intro W18 hW19
      rintro _ rfl
      refine gather_nil ?_
      refine opg_none rfl ?_
      have hb22 : W18.heap[b12]? = some (.cells #[.int .i64 x_s_k.kind, .int .i64 x_s_k.val] 46 (0, 0)) := (blk_ext hb17 hW19)
      exact op_load1 (v := .int .i64 x_s_k.kind) rfl agg3 (cell_blk hb22 rfl) rfl ⟨told rfl rfl rfl, (Below.refl _ _)⟩
    · intro W18 hW19
      refine gather_nil ?_
      refine opg_none rfl ?_
      exact op_move rfl rfl ⟨told rfl rfl rfl, (Below.refl _ _)⟩
    · intro W18 hW19
      rintro _ rfl
      rintro _ rfl
      refine gather_nil ?_
      refine opg_none rfl ?_
      exact op_geq rfl rfl rfl ⟨told rfl rfl rfl, (Below.refl _ _)⟩
    · intro W18 hW19
      rintro _ rfl
      refine gather_nil ?_
      refine opg_none rfl ?_
      exact op_move rfl rfl ⟨told rfl rfl rfl, (Below.refl _ _)⟩
    · intro W18 hW19
      rintro _ rfl
      refine gather_nil ?_
      refine opg_t1 rfl rfl (fun hg23 => ?_) (fun h => by rw [h, cond_false])
      exact op_fieldAddr rfl fa46_0 rfl ⟨told rfl rfl (by rw [hg23, cond_true]), (Below.refl _ _)⟩
    · intro W18 hW19
      rintro _ rfl
      intro v24 (hv25 : v24 = bif (decide (lo ≤ x_s_k.kind)) then (.pointer (some ⟨b12, 0 + 0, none⟩)) else undef)
      refine gather_nil ?_
      refine opg_t1 rfl rfl (fun hg26 => ?_) (fun h => by rw [h, cond_false])
      have hd27 := of_decide_eq_true hg26
      obtain rfl : v24 = .pointer (some ⟨b12, 0 + 0, none⟩) := by rw [hv25, hg26, cond_true]
      have hb28 : W18.heap[b12]? = some (.cells #[.int .i64 x_s_k.kind, .int .i64 x_s_k.val] 46 (0, 0)) := (blk_ext hb17 hW19)
      exact op_load1 (v := .int .i64 x_s_k.kind) rfl agg3 (cell_blk hb28 rfl) rfl ⟨told rfl rfl (by rw [hg26, cond_true]), (Below.refl _ _)⟩
    · intro W18 hW19
      rintro _ rfl
      refine gather_nil ?_
      refine opg_t1 rfl rfl (fun hg29 => ?_) (fun h => by rw [h, cond_false])
      exact op_move rfl rfl ⟨told rfl rfl (by rw [hg29, cond_true]), (Below.refl _ _)⟩
    · intro W18 hW19
      rintro _ rfl
      intro v30 (hv31 : v30 = bif (decide (lo ≤ x_s_k.kind)) then (.int .i64 x_s_k.kind) else undef)
      intro v32 (hv33 : v32 = bif (decide (lo ≤ x_s_k.kind)) then (.int .i64 hi) else undef)
      refine gather_nil ?_
      refine opg_t1 rfl rfl (fun hg34 => ?_) (fun h => by rw [h, cond_false])
      have hd35 := of_decide_eq_true hg34
      obtain rfl : v30 = .int .i64 x_s_k.kind := by rw [hv31, hg34, cond_true]
      obtain rfl : v32 = .int .i64 hi := by rw [hv33, hg34, cond_true]
      exact op_leq rfl rfl rfl ⟨told rfl rfl (by rw [hg34, cond_true]), (Below.refl _ _)⟩
    · intro W18 hW19
      rintro _ rfl
      intro v36 (hv37 : v36 = bif (decide (lo ≤ x_s_k.kind)) then (.bool (decide (x_s_k.kind ≤ hi))) else undef)
      refine gather_nil ?_
      refine opg_none rfl ?_
      exact op_and rfl rfl rfl (fun h => by rw [hv37, h, cond_true]) rfl ⟨told rfl rfl rfl, (Below.refl _ _)⟩
    intro W38 hW39
    rintro _ rfl
    rintro _ rfl
    rintro _ rfl
    rintro _ rfl
    rintro _ rfl
    rintro _ rfl
    refine gather_nil ?_
    refine (then_norm ?_)
    refine wc_cond (b := (decide (lo ≤ x_s_k.kind)) && (decide (x_s_k.kind ≤ hi))) rfl (fun hc40 => ?_) (fun hc40 => ?_)
    · have hkeep : (fun p => (decide (lo ≤ p.kind)) && (decide (p.kind ≤ hi))) x_s_k = true := hc40
      refine wc_region ?_
      refine wl_op rfl (op_move rfl rfl ?_)
      have hb41 : W38.heap[b12]? = some (.cells #[.int .i64 x_s_k.kind, .int .i64 x_s_k.val] 46 (0, 0)) := (blk_ext hb17 hW39)
      refine wl_op rfl (op_loadN (vs := [.int .i64 x_s_k.kind, .int .i64 x_s_k.val]) rfl agg46 sz46 rfl (cells_blk hb41) rfl ?_)
      refine wl_op rfl (op_buildSlice (cs := #[.int .i64 x_s_k.kind, .int .i64 x_s_k.val]) (e := 46) rfl (fun w => by kernel_rfl) rfl ?_)
      intro W42 b43 hN44
      have hb45 : W42.heap[b43]? = some (.cells #[.int .i64 x_s_k.kind, .int .i64 x_s_k.val] 46 (0, 0)) := hN44.blk
      have hB51 : Below w.heap.size w W42 := (below_new (below_step (hP16.below (below_new hB10 hN13) (le_new hB10 hN13)) hW39) hN44)
      refine wl_op rfl (op_appendP (enc := encP) (⟨x_s_k.kind, x_s_k.val⟩ : Pol) rfl rfl app22 rfl rfl (Own.ext (Own.ext (own_put (Own.ext hown hN13.ext) hP16 (own_ne_new hown hN13)) hW39) hN44.ext) (cells_blk hb45) rfl rfl (by have := filter_take_le s k (fun p => (decide (lo ≤ p.kind)) && (decide (p.kind ≤ hi))); omega) (by have := filter_take_le s k (fun p => (decide (lo ≤ p.kind)) && (decide (p.kind ≤ hi))); omega) hB51.size rfl ?_)
      intro v46 W47 ho48 hg49 hob50
      refine wl_op rfl (op_assign rfl rfl ?_)
      refine (wl_done (block_norm (then_norm ?_)))
      refine wc_region ?_
      refine wl_op rfl (op_add (r := ((k + 1 : Nat) : Int)) rfl rfl (by omega) (by omega) rfl ?_)
      refine wl_op rfl (op_move rfl rfl ?_)
      refine (wl_done (then_norm ?_))
      have hB52 : Below w.heap.size w W47 := (below_grown hB51 (Own.ext (Own.ext (own_put (Own.ext hown hN13.ext) hP16 (own_ne_new hown hN13)) hW39) hN44.ext) hg49 (Nat.le_refl _))
      refine ⟨((k + 1), v46, W47), ⟨(by first | omega | (dsimp only; omega)), (by dsimp only; rw [take_filter_t hx_s_k hkeep]; exact ho48), hB52⟩, ?_, ⟨rfl, rfl, rfl, rfl, rfl, rfl, rfl, trivial⟩, rfl⟩
      · dsimp only; omega
    · have hkeep : (fun p => (decide (lo ≤ p.kind)) && (decide (p.kind ≤ hi))) x_s_k = false := hc40
      refine wc_skip ?_
      refine (block_norm (then_norm ?_))
      refine wc_region ?_
      refine wl_op rfl (op_add (r := ((k + 1 : Nat) : Int)) rfl rfl (by omega) (by omega) rfl ?_)
      refine wl_op rfl (op_move rfl rfl ?_)
      refine (wl_done (then_norm ?_))
      have hB53 : Below w.heap.size w W38 := (below_step (hP16.below (below_new hB10 hN13) (le_new hB10 hN13)) hW39)
      refine ⟨((k + 1), v, W38), ⟨(by first | omega | (dsimp only; omega)), (by dsimp only; rw [take_filter_f hx_s_k hkeep]; exact (Own.ext (own_put (Own.ext hown hN13.ext) hP16 (own_ne_new hown hN13)) hW39)), hB53⟩, ?_, ⟨rfl, rfl, rfl, rfl, rfl, rfl, rfl, trivial⟩, rfl⟩
      · dsimp only; omega
  · have hc9r := hc9
    have hc9 := of_decide_eq_false hc9
    refine wc_exit ?_
    refine (then_exit (then_exit (block_here (then_norm ?_))))
    refine WC.sub [(6, .slice none 0 0), (7, v)] ⟨rfl, rfl, trivial⟩ ?_
    refine wc_seq ?_
    refine wc_region ?_
    refine wl_op rfl (op_move rfl rfl ?_)
    refine wl_op rfl (op_assign rfl rfl ?_)
    refine (wl_done (then_norm ?_))
    refine wc_ret ?_
    have hB54 : Below w.heap.size w W7 := (below_step (Below.refl _ _) hE8)
    obtain ⟨A55, n56, c57, hv58, hr59, hn60, hnc61⟩ := rd_of_OwnC hown (fun _ => rfl) (by have := filter_take_le s k (fun p => (decide (lo ≤ p.kind)) && (decide (p.kind ≤ hi))); omega)
    subst hv58
    have hkn : s.take k = s := List.take_of_length_le (by omega)
    refine ⟨[_], ⟨rfl, trivial⟩, ⟨A55, n56, c57, ?_, (by have h := hr59; rw [hkn] at h; exact h), hB54⟩⟩
    exact rfl

theorem rplain_spec {w : World} {A : Option Addr} {n c : Nat} {s : List Pol} (hs : RdP w A n s) (hn : n ≤ 1000) : Ret Try.prog 51 #[.slice A n c] w (fun v w' => ∃ (A1 : Option Addr) (n1 c1 : Nat), v = .slice A1 n1 c1 ∧ RdP w' A1 n1 (s.filter (fun p => !decide (p.val = valueOf [] p.kind))) ∧ Below w.heap.size w w') := by
  obtain ⟨bs1, os2, hA3, hc4⟩ := hs.flat
  have hln5 := hs.len
  have hbd6 := hs.bd
  have hlen_s := hs.len
  refine ret_of (args := [.slice A n c]) Try.func51 rfl Try.ntmps51 rfl (rs := [.tmp 2]) rfl ?_
  refine wc_seq ?_
  refine wc_region ?_
  refine wl_op rfl (op_assign rfl rfl ?_)
  refine (wl_done (then_norm ?_))
  refine wc_seq ?_
  refine wc_region ?_
  refine wl_op rfl (op_assign rfl rfl ?_)
  refine (wl_done (then_norm ?_))
  refine wc_seq ?_
  refine wc_seq ?_
  refine wc_region ?_
  refine wl_op rfl (op_move rfl rfl ?_)
  refine wl_op rfl (op_len_slice rfl rfl und22 rfl rfl ?_)
  refine wl_op rfl (op_move rfl rfl ?_)
  refine (wl_done (then_norm ?_))
  refine wc_block ?_
  refine wc_loop (σ := Nat × Value × World) (fun st_ => [(2, .slice none 0 0), (3, st_.2.1), (6, .slice A n c), (7, .int .i64 ((n : Nat) : Int)), (8, .int .i64 (st_.1 : Int))]) (fun st_ => st_.2.2) (fun st_ => (st_.1 ≤ n) ∧ (Own encP w.heap.size 46 2 st_.2.2 st_.2.1 ((s.take st_.1).filter (fun p => !decide (p.val = valueOf [] p.kind)))) ∧ (Below w.heap.size w st_.2.2)) (fun st_ => n - st_.1) (0, (.slice none 0 0), w) ⟨(by first | omega | (dsimp only; omega)), (own_nil _ _ _ _ _), (Below.refl _ _)⟩ ⟨rfl, rfl, rfl, rfl, rfl, trivial⟩ rfl ?_
  rintro ⟨k, v, W7⟩ ⟨hk1, hown, hE8⟩
  dsimp only at hk1 hown hE8
  refine wc_at [(2, .slice none 0 0), (3, v), (6, .slice A n c), (7, .int .i64 ((n : Nat) : Int)), (8, .int .i64 (k : Int))] W7 ⟨rfl, rfl, rfl, rfl, rfl, trivial⟩ rfl ?_
  refine wc_seq ?_
  refine wc_region ?_
  refine wl_op rfl (op_lss rfl rfl rfl ?_)
  refine (wl_done (then_norm ?_))
  refine wc_seq ?_
  refine wc_cond (b := decide ((k : Int) < ((n : Nat) : Int))) rfl (fun hc9 => ?_) (fun hc9 => ?_)
  · have hc9r := hc9
    have hc9 := of_decide_eq_true hc9
    refine wc_skip ?_
    refine (then_norm ?_)
    refine wc_seq ?_
    refine wc_block ?_
    refine wc_seq ?_
    refine wc_region ?_
    obtain ⟨x_s_k, hx_s_k⟩ : ∃ x, s[k]? = some x := ⟨_, List.getElem?_eq_getElem (by have := hs.len; omega)⟩
    refine wl_op rfl (op_indexAddr (j := k) rfl rfl und22 sz46 (hA3 (by omega)) rfl (by omega) rfl ?_)
    have hB10 : Below w.heap.size w W7 := (below_step (Below.refl _ _) hE8)
    refine wl_op rfl (op_loadN (vs := [.int .i64 x_s_k.kind, .int .i64 x_s_k.val]) rfl agg46 sz46 rfl ((hc4 k x_s_k hx_s_k).ext hB10) rfl ?_)
    refine wl_op rfl (op_alloc zero46 rfl ?_)
    intro W11 b12 hN13
    have hb14 : W11.heap[b12]? = some (.cells #[.int .i64 0, .int .i64 0] 46 (0, 0)) := hN13.blk
    refine wl_op rfl (op_storeW rfl rfl sz46 hb14 rfl rfl ?_)
    intro W15 hP16 hb17
    have hb17 : W15.heap[b12]? = some (.cells #[.int .i64 x_s_k.kind, .int .i64 x_s_k.val] 46 (0, 0)) := hb17
    refine (wl_done (then_norm ?_))
    refine wc_seq ?_
    refine wc_draw mixed [(2, .slice none 0 0), (3, v), (6, .slice A n c), (7, .int .i64 ((n : Nat) : Int)), (8, .int .i64 (k : Int)), (9, .bool (decide ((k : Int) < ((n : Nat) : Int)))), (10, .pointer (some ⟨bs1, os2 + k * 2, none⟩)), (11, .agg #[.int .i64 x_s_k.kind, .int .i64 x_s_k.val]), (5, .pointer (some ⟨b12, 0, none⟩))] ⟨rfl, rfl, rfl, rfl, rfl, rfl, rfl, rfl, rfl, trivial⟩ [fun v _ => v = .pointer (some ⟨b12, 0 + 1, none⟩), fun v _ => v = .int .i64 x_s_k.val, fun v _ => v = .pointer (some ⟨b12, 0 + 0, none⟩), fun v _ => v = .int .i64 x_s_k.kind, fun v _ => v = .int .i64 (valueOf [] x_s_k.kind), fun v _ => v = .bool (!decide (x_s_k.val = valueOf [] x_s_k.kind))] [[], [0], [], [2], [3], [1, 4]] [0, 1, 2, 3, 4, 5] rfl rfl rfl ⟨fun _ _ _ _ h => h, fun _ _ _ _ h => h, fun _ _ _ _ h => h, fun _ _ _ _ h => h, fun _ _ _ _ h => h, fun _ _ _ _ h => h, trivial⟩ ⟨?_, ?_, ?_, ?_, ?_, ?_, trivial⟩ ?_
    · intro W18 hW19
      refine gather_nil ?_
      refine opg_none rfl ?_
      exact op_fieldAddr rfl fa46_1 rfl ⟨told rfl rfl rfl, (Below.refl _ _)⟩
    · intro W18 hW19
      rintro _ rfl
      refine gather_nil ?_
      refine opg_none rfl ?_
      have hb22 : W18.heap[b12]? = some (.cells #[.int .i64 x_s_k.kind, .int .i64 x_s_k.val] 46 (0, 0)) := (blk_ext hb17 hW19)
      exact op_load1 (v := .int .i64 x_s_k.val) rfl agg3 (cell_blk hb22 rfl) rfl ⟨told rfl rfl rfl, (Below.refl _ _)⟩
    · intro W18 hW19
      refine gather_nil ?_
      refine opg_none rfl ?_
      exact op_fieldAddr rfl fa46_0 rfl ⟨told rfl rfl rfl, (Below.refl _ _)⟩
    · intro W18 hW19
      rintro _ rfl
      refine gather_nil ?_
      refine opg_none rfl ?_
      have hb23 : W18.heap[b12]? = some (.cells #[.int .i64 x_s_k.kind, .int .i64 x_s_k.val] 46 (0, 0)) := (blk_ext hb17 hW19)
      exact op_load1 (v := .int .i64 x_s_k.kind) rfl agg3 (cell_blk hb23 rfl) rfl ⟨told rfl rfl rfl, (Below.refl _ _)⟩
    · intro W18 hW19
      rintro _ rfl
      refine gather_nil ?_
      refine opg_none rfl ?_
      refine op_call ent48 rfl (rvalue_spec (rd_nil _ _ _)) rfl ?_
      rintro _ W24 ⟨rfl, hE25⟩
      exact ⟨told rfl rfl rfl, hE25⟩
    · intro W18 hW19
      rintro _ rfl
      rintro _ rfl
      refine gather_nil ?_
      refine opg_none rfl ?_
      exact op_neq rfl rfl rfl ⟨told rfl rfl rfl, (Below.refl _ _)⟩
    intro W26 hW27
    rintro _ rfl
    rintro _ rfl
    rintro _ rfl
    rintro _ rfl
    rintro _ rfl
    rintro _ rfl
    refine gather_nil ?_
    refine (then_norm ?_)
    refine wc_cond (b := !decide (x_s_k.val = valueOf [] x_s_k.kind)) rfl (fun hc28 => ?_) (fun hc28 => ?_)
    · have hc28r := hc28
      have hc28 := of_decide_eq_false (not_t hc28)
      have hkeep : (fun p => !decide (p.val = valueOf [] p.kind)) x_s_k = true := hc28r
      refine wc_region ?_
      refine wl_op rfl (op_move rfl rfl ?_)
      have hb29 : W26.heap[b12]? = some (.cells #[.int .i64 x_s_k.kind, .int .i64 x_s_k.val] 46 (0, 0)) := (blk_ext hb17 hW27)
      refine wl_op rfl (op_loadN (vs := [.int .i64 x_s_k.kind, .int .i64 x_s_k.val]) rfl agg46 sz46 rfl (cells_blk hb29) rfl ?_)
      refine wl_op rfl (op_buildSlice (cs := #[.int .i64 x_s_k.kind, .int .i64 x_s_k.val]) (e := 46) rfl (fun w => by kernel_rfl) rfl ?_)
      intro W30 b31 hN32
      have hb33 : W30.heap[b31]? = some (.cells #[.int .i64 x_s_k.kind, .int .i64 x_s_k.val] 46 (0, 0)) := hN32.blk
      have hB39 : Below w.heap.size w W30 := (below_new (below_step (hP16.below (below_new hB10 hN13) (le_new hB10 hN13)) hW27) hN32)
      refine wl_op rfl (op_appendP (enc := encP) (⟨x_s_k.kind, x_s_k.val⟩ : Pol) rfl rfl app22 rfl rfl (Own.ext (Own.ext (own_put (Own.ext hown hN13.ext) hP16 (own_ne_new hown hN13)) hW27) hN32.ext) (cells_blk hb33) rfl rfl (by have := filter_take_le s k (fun p => !decide (p.val = valueOf [] p.kind)); omega) (by have := filter_take_le s k (fun p => !decide (p.val = valueOf [] p.kind)); omega) hB39.size rfl ?_)
      intro v34 W35 ho36 hg37 hob38
      refine wl_op rfl (op_assign rfl rfl ?_)
      refine (wl_done (block_norm (then_norm ?_)))
      refine wc_region ?_
      refine wl_op rfl (op_add (r := ((k + 1 : Nat) : Int)) rfl rfl (by omega) (by omega) rfl ?_)
      refine wl_op rfl (op_move rfl rfl ?_)
      refine (wl_done (then_norm ?_))
      have hB40 : Below w.heap.size w W35 := (below_grown hB39 (Own.ext (Own.ext (own_put (Own.ext hown hN13.ext) hP16 (own_ne_new hown hN13)) hW27) hN32.ext) hg37 (Nat.le_refl _))
      refine ⟨((k + 1), v34, W35), ⟨(by first | omega | (dsimp only; omega)), (by dsimp only; rw [take_filter_t hx_s_k hkeep]; exact ho36), hB40⟩, ?_, ⟨rfl, rfl, rfl, rfl, rfl, trivial⟩, rfl⟩
      · dsimp only; omega
    · have hc28r := hc28
      have hc28 := of_decide_eq_true (not_f hc28)
      have hkeep : (fun p => !decide (p.val = valueOf [] p.kind)) x_s_k = false := hc28r
      refine wc_skip ?_
      refine (block_norm (then_norm ?_))
      refine wc_region ?_
      refine wl_op rfl (op_add (r := ((k + 1 : Nat) : Int)) rfl rfl (by omega) (by omega) rfl ?_)
      refine wl_op rfl (op_move rfl rfl ?_)
      refine (wl_done (then_norm ?_))
      have hB41 : Below w.heap.size w W26 := (below_step (hP16.below (below_new hB10 hN13) (le_new hB10 hN13)) hW27)
      refine ⟨((k + 1), v, W26), ⟨(by first | omega | (dsimp only; omega)), (by dsimp only; rw [take_filter_f hx_s_k hkeep]; exact (Own.ext (own_put (Own.ext hown hN13.ext) hP16 (own_ne_new hown hN13)) hW27)), hB41⟩, ?_, ⟨rfl, rfl, rfl, rfl, rfl, trivial⟩, rfl⟩
      · dsimp only; omega
  · have hc9r := hc9
    have hc9 := of_decide_eq_false hc9
    refine wc_exit ?_
    refine (then_exit (then_exit (block_here (then_norm ?_))))
    refine wc_seq ?_
    refine wc_region ?_
    refine wl_op rfl (op_move rfl rfl ?_)
    refine wl_op rfl (op_assign rfl rfl ?_)
    refine (wl_done (then_norm ?_))
    refine WC.sub [(2, v)] ⟨rfl, trivial⟩ ?_
    refine wc_ret ?_
    have hB42 : Below w.heap.size w W7 := (below_step (Below.refl _ _) hE8)
    obtain ⟨A43, n44, c45, hv46, hr47, hn48, hnc49⟩ := rd_of_OwnC hown (fun _ => rfl) (by have := filter_take_le s k (fun p => !decide (p.val = valueOf [] p.kind)); omega)
    subst hv46
    have hkn : s.take k = s := List.take_of_length_le (by omega)
    refine ⟨[_], ⟨rfl, trivial⟩, ⟨A43, n44, c45, ?_, (by have h := hr47; rw [hkn] at h; exact h), hB42⟩⟩
    exact rfl

def strengthR (k v : Int) : Int := if k = 9 then (if v = 1 then 2 else if v = 2 then 1 else v) else v

theorem rStrength_spec {w : World} {k u : Int} : Ret Try.prog 14 #[.int .i64 k, .int .i64 u] w (fun v w' => v = .int .i64 (strengthR k u) ∧ Below w.heap.size w w') := by
  refine ret_of (args := [.int .i64 k, .int .i64 u]) Try.func14 rfl Try.ntmps14 rfl (rs := [.tmp 4]) rfl ?_
  refine wc_seq ?_
  refine wc_region ?_
  refine wl_op rfl (op_assign rfl rfl ?_)
  refine (wl_done (then_norm ?_))
  refine wc_seq ?_
  refine wc_seq ?_
  refine wc_region ?_
  refine wl_op rfl (op_move rfl rfl ?_)
  refine wl_op rfl (op_eql rfl rfl rfl ?_)
  refine (wl_done (then_norm ?_))
  refine wc_cond (b := decide (k = 9)) rfl (fun hc1 => ?_) (fun hc1 => ?_)
  · have hc1r := hc1
    have hc1 := of_decide_eq_true hc1
    refine wc_seq ?_
    refine wc_region ?_
    refine wl_op rfl (op_move rfl rfl ?_)
    refine (wl_done (then_norm ?_))
    refine wc_block ?_
    refine wc_seq ?_
    refine wc_region ?_
    refine wl_op rfl (op_eql rfl rfl rfl ?_)
    refine wl_op rfl (op_assign rfl rfl ?_)
    refine (wl_done (then_norm ?_))
    refine wc_cond (b := decide (u = 1)) rfl (fun hc2 => ?_) (fun hc2 => ?_)
    · have hc2r := hc2
      have hc2 := of_decide_eq_true hc2
      refine wc_seq ?_
      refine wc_region ?_
      refine wl_op rfl (op_assign rfl rfl ?_)
      refine (wl_done (then_norm ?_))
      refine WC.sub [(1, .int .i64 u), (4, .int .i64 2)] ⟨rfl, rfl, trivial⟩ ?_
      refine wc_ret ?_
      refine (block_ret (then_ret ?_))
      refine ⟨[_], ⟨rfl, trivial⟩, ⟨?_, (Below.refl _ _)⟩⟩
      rw [strengthR, if_pos hc1, if_pos hc2]
      rfl
    · have hc2r := hc2
      have hc2 := of_decide_eq_false hc2
      refine wc_seq ?_
      refine wc_region ?_
      refine wl_op rfl (op_eql rfl rfl rfl ?_)
      refine wl_op rfl (op_assign rfl rfl ?_)
      refine (wl_done (then_norm ?_))
      refine WC.sub [(1, .int .i64 u), (4, .int .i64 0), (10, .bool (decide (u = 2)))] ⟨rfl, rfl, rfl, trivial⟩ ?_
      refine wc_cond (b := decide (u = 2)) rfl (fun hc3 => ?_) (fun hc3 => ?_)
      · have hc3r := hc3
        have hc3 := of_decide_eq_true hc3
        refine wc_seq ?_
        refine wc_region ?_
        refine wl_op rfl (op_assign rfl rfl ?_)
        refine (wl_done (then_norm ?_))
        refine wc_ret ?_
        refine (block_ret (then_ret ?_))
        refine ⟨[_], ⟨rfl, trivial⟩, ⟨?_, (Below.refl _ _)⟩⟩
        rw [strengthR, if_pos hc1, if_neg hc2, if_pos hc3]
        rfl
      · have hc3r := hc3
        have hc3 := of_decide_eq_false hc3
        refine wc_skip ?_
        refine (block_norm (then_norm ?_))
        refine wc_seq ?_
        refine wc_region ?_
        refine wl_op rfl (op_move rfl rfl ?_)
        refine wl_op rfl (op_assign rfl rfl ?_)
        refine (wl_done (then_norm ?_))
        refine wc_ret ?_
        refine ⟨[_], ⟨rfl, trivial⟩, ⟨?_, (Below.refl _ _)⟩⟩
        rw [strengthR, if_pos hc1, if_neg hc2, if_neg hc3]
        rfl
  · have hc1r := hc1
    have hc1 := of_decide_eq_false hc1
    refine wc_skip ?_
    refine (then_norm ?_)
    refine wc_seq ?_
    refine wc_region ?_
    refine wl_op rfl (op_move rfl rfl ?_)
    refine wl_op rfl (op_assign rfl rfl ?_)
    refine (wl_done (then_norm ?_))
    refine wc_ret ?_
    refine ⟨[_], ⟨rfl, trivial⟩, ⟨?_, (Below.refl _ _)⟩⟩
    rw [strengthR, if_neg hc1]
    rfl

theorem rstronger_spec {w : World} {k a b : Int} : Ret Try.prog 50 #[.int .i64 k, .int .i64 a, .int .i64 b] w (fun v w' => v = .int .i64 (if strengthR k a < strengthR k b then b else a) ∧ Below w.heap.size w w') := by
  refine ret_of (args := [.int .i64 k, .int .i64 a, .int .i64 b]) Try.func50 rfl Try.ntmps50 rfl (rs := [.tmp 6]) rfl ?_
  refine wc_seq ?_
  refine wc_region ?_
  refine wl_op rfl (op_assign rfl rfl ?_)
  refine (wl_done (then_norm ?_))
  refine wc_seq ?_
  refine wc_seq ?_
  refine wc_region ?_
  refine wl_op rfl (op_move rfl rfl ?_)
  refine wl_op rfl (op_move rfl rfl ?_)
  refine wl_op rfl (op_call ent14 rfl (rStrength_spec) rfl ?_)
  rintro _ W1 ⟨rfl, hE2⟩
  refine wl_op rfl (op_move rfl rfl ?_)
  refine wl_op rfl (op_move rfl rfl ?_)
  refine wl_op rfl (op_call ent14 rfl (rStrength_spec) rfl ?_)
  rintro _ W3 ⟨rfl, hE4⟩
  refine wl_op rfl (op_gtr rfl rfl rfl ?_)
  refine (wl_done (then_norm ?_))
  refine WC.sub [(1, .int .i64 a), (2, .int .i64 b), (6, .int .i64 0), (13, .bool (decide (strengthR k a < strengthR k b)))] ⟨rfl, rfl, rfl, rfl, trivial⟩ ?_
  refine wc_cond (b := decide (strengthR k a < strengthR k b)) rfl (fun hc5 => ?_) (fun hc5 => ?_)
  · have hc5r := hc5
    have hc5 := of_decide_eq_true hc5
    refine wc_seq ?_
    refine wc_region ?_
    refine wl_op rfl (op_move rfl rfl ?_)
    refine wl_op rfl (op_assign rfl rfl ?_)
    refine (wl_done (then_norm ?_))
    refine wc_ret ?_
    refine (then_ret ?_)
    have hB6 : Below w.heap.size w W3 := (below_step (below_step (Below.refl _ _) hE2) hE4)
    refine ⟨[_], ⟨rfl, trivial⟩, ⟨?_, hB6⟩⟩
    rw [if_pos hc5]
    rfl
  · have hc5r := hc5
    have hc5 := of_decide_eq_false hc5
    refine wc_skip ?_
    refine (then_norm ?_)
    refine wc_seq ?_
    refine wc_region ?_
    refine wl_op rfl (op_move rfl rfl ?_)
    refine wl_op rfl (op_assign rfl rfl ?_)
    refine (wl_done (then_norm ?_))
    refine wc_ret ?_
    have hB7 : Below w.heap.size w W3 := (below_step (below_step (Below.refl _ _) hE2) hE4)
    refine ⟨[_], ⟨rfl, trivial⟩, ⟨?_, hB7⟩⟩
    rw [if_neg hc5]
    rfl

end Go.Eng
