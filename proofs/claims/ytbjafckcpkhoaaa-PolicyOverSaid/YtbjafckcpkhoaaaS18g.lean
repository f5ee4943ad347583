/- Lemmas for a law of the seat: what functions of the program do, each stated as a contract of its own (module S18g). -/
import Derived.Test.YtbjafckcpkhoaaaS18f
import Derived.Test.YtbjafckcpkhoaaaChecked
set_option linter.unusedVariables false
set_option maxRecDepth 100000
namespace Go.Eng
open Go.RowKit Go.Shelf Go.Proofs Pol

theorem ent36 : Enters Try.prog 36 := enters_of Try.func36 (by kernel_rfl) rfl
theorem ent42 : Enters Try.prog 42 := enters_of Try.func42 (by kernel_rfl) rfl
theorem ent43 : Enters Try.prog 43 := enters_of Try.func43 (by kernel_rfl) rfl
theorem ent44 : Enters Try.prog 44 := enters_of Try.func44 (by kernel_rfl) rfl
theorem sz3 : Sz Try.prog 3 1 := fun w => by kernel_rfl
theorem ent45 : Enters Try.prog 45 := enters_of Try.func45 (by kernel_rfl) rfl
theorem ent46 : Enters Try.prog 46 := enters_of Try.func46 (by kernel_rfl) rfl
theorem ent8 : Enters Try.prog 8 := enters_of Try.func8 (by kernel_rfl) rfl
theorem und25 : Und Try.prog 25 (.slice 29) := by unfold Und; kernel_rfl
theorem sz29 : Sz Try.prog 29 2 := fun w => by kernel_rfl
theorem und29 : Und Try.prog 29 (.array 2 3) := by unfold Und; kernel_rfl
theorem ent21 : Enters Try.prog 21 := enters_of Try.func21 (by kernel_rfl) rfl

abbrev agC (a : List Pol) : List Pol := chosenL a keepCalls
def rebindOf (c s : List Pol) : Int := if valueOf c 8 < valueOf s 8 then valueOf s 8 else valueOf c 8
def certOf (c s : List Pol) : Int := if strengthI (valueOf c 9) < strengthI (valueOf s 9) then valueOf s 9 else valueOf c 9
def limitOf (c s : List Pol) : Int := if 0 < valueOf s 10 ∧ (valueOf c 10 = 0 ∨ valueOf s 10 < valueOf c 10) then valueOf s 10 else valueOf c 10
abbrev hasPrio (s : List Pol) : Bool := s.any (fun p => decide (p.kind = 12))
def prioOf (c s : List Pol) : Int := if hasPrio s = true then (if valueOf s 12 < valueOf c 12 then valueOf s 12 else valueOf c 12) else valueOf c 12
def orderOf (c s : List Pol) : Int := if valueOf c 13 = 1 then valueOf s 13 else valueOf c 13
def agreed (c s : List Pol) : List Pol := [⟨8, rebindOf c s⟩, ⟨9, certOf c s⟩, ⟨10, limitOf c s⟩, ⟨11, valueOf c 11⟩, ⟨12, prioOf c s⟩, ⟨13, orderOf c s⟩]
def agree (a b : List Pol) : List Pol × Int × Int :=
  if validSet a = true ∧ validSet b = true then
    if valueOf (agC b) 11 < valueOf (agC a) 11 then ([], 11, 9)
    else match clashL (agreed (agC a) (agC b)) with
      | q :: _ => ([], q.1, 9)
      | [] => (chosenL (agreed (agC a) (agC b)) keepPlain, 0, chosenE (agreed (agC a) (agC b)))
  else ([], 0, 1)
theorem chosenE_0 {s : List Pol} : chosenE s = 0 ↔ validSet s = true := by
  unfold chosenE; split <;> simp_all
theorem asc_filter {s : List Pol} (h : Asc s) (f : Pol → Bool) : Asc (s.filter f) := by
  have hp : List.Pairwise (fun x y : Pol => x.kind < y.kind) s := by
    rw [List.pairwise_iff_getElem]
    intro i j hi hj hij
    exact h.up i j _ _ hij (List.getElem?_eq_getElem hi) (List.getElem?_eq_getElem hj)
  have hf := hp.filter f
  rw [List.pairwise_iff_getElem] at hf
  refine ⟨fun i x hx => ?_, fun i j x y hij hx hy => ?_⟩
  · have hm := List.mem_of_getElem? hx
    rw [List.mem_filter] at hm
    obtain ⟨j, hj, rfl⟩ := List.getElem_of_mem hm.1
    exact h.lo j _ (List.getElem?_eq_getElem hj)
  · obtain ⟨hi, rfl⟩ := List.getElem?_eq_some_iff.1 hx
    obtain ⟨hj, rfl⟩ := List.getElem?_eq_some_iff.1 hy
    exact hf i j hi hj hij
theorem asc_chosen {s : List Pol} (hv : validSet s = true) (f : Pol → Bool) : Asc (chosenL s f) := by
  unfold chosenL; rw [if_pos hv]; exact asc_filter (valid_asc hv) f
theorem valueOf_rng {s : List Pol} (h : ∀ p, p ∈ s → validB p = true) {k : Int} (h1 : 1 ≤ k) (h2 : k ≤ 13) : leastI k ≤ valueOf s k ∧ valueOf s k ≤ mostI k := by
  unfold valueOf
  cases hf : s.find? (fun p => decide (p.kind = k)) with
  | none =>
    simp only []
    refine ⟨Int.le_refl _, ?_⟩
    unfold leastI mostI
    repeat' split
    all_goals omega
  | some p =>
    have h3 := List.find?_some hf
    have h4 := h p (List.mem_of_find?_eq_some hf)
    have h5 : p.kind = k := by simpa using h3
    have h6 := valid_val h4
    rw [h5] at h6
    exact h6
theorem chosen_valid {s : List Pol} (hv : validSet s = true) (f : Pol → Bool) : ∀ p, p ∈ chosenL s f → validB p = true := by
  intro p hp
  unfold chosenL at hp
  rw [if_pos hv, List.mem_filter] at hp
  exact mem_valid hv hp.1
theorem rng9 {a b : List Pol} (ha : validSet a = true) (hb : validSet b = true) {x : Int} (h : x = valueOf (agC a) 9 ∨ x = valueOf (agC b) 9) : 0 ≤ x ∧ x ≤ 4 := by
  have h1 := valueOf_rng (chosen_valid ha keepCalls) (k := 9) (by decide) (by decide)
  have h2 := valueOf_rng (chosen_valid hb keepCalls) (k := 9) (by decide) (by decide)
  have e1 : leastI 9 = 1 := by decide
  have e2 : mostI 9 = 4 := by decide
  rw [e1, e2] at h1 h2
  unfold agC at h
  omega
theorem lim_t {a b c : Prop} [Decidable a] [Decidable b] [Decidable c] (h : (decide a && (decide b || decide c)) = true) : a ∧ (b ∨ c) := by simpa using h
theorem lim_f {a b c : Prop} [Decidable a] [Decidable b] [Decidable c] (h : (decide a && (decide b || decide c)) = false) : ¬ (a ∧ (b ∨ c)) := fun k => by
  have : (decide a && (decide b || decide c)) = true := by simpa using k
  rw [h] at this; cases this
theorem agree_route {a b : List Pol} (hva : validSet a = true) (hvb : validSet b = true) (h : valueOf (agC b) 11 < valueOf (agC a) 11) : agree a b = ([], 11, 9) := by
  rw [agree, if_pos ⟨hva, hvb⟩, if_pos h]
theorem agree_clash {a b : List Pol} (hva : validSet a = true) (hvb : validSet b = true) (h : ¬ valueOf (agC b) 11 < valueOf (agC a) 11) {q : Int × Int} (hq : (clashL (agreed (agC a) (agC b)))[0]? = some q) : agree a b = ([], q.1, 9) := by
  rw [agree, if_pos ⟨hva, hvb⟩, if_neg h]
  cases hl : clashL (agreed (agC a) (agC b)) with
  | nil => rw [hl] at hq; cases hq
  | cons p r => rw [hl] at hq; cases hq; rfl
theorem agree_fine {a b : List Pol} (hva : validSet a = true) (hvb : validSet b = true) (h : ¬ valueOf (agC b) 11 < valueOf (agC a) 11) (hq : (clashL (agreed (agC a) (agC b))).length = 0) :
    agree a b = (chosenL (agreed (agC a) (agC b)) keepPlain, 0, chosenE (agreed (agC a) (agC b))) := by
  rw [agree, if_pos ⟨hva, hvb⟩, if_neg h]
  rw [List.eq_nil_of_length_eq_zero hq]

theorem Agree_spec {w : World} {A : Option Addr} {n c : Nat} {a : List Pol} {A2 : Option Addr} {n2 c2 : Nat} {b : List Pol} (hs : RdP w A n a) (hs2 : RdP w A2 n2 b) (hn : n ≤ 1000) (hn2 : n2 ≤ 1000) : Ret Try.prog 10 #[.slice A n c, .slice A2 n2 c2] w (fun v w' => ∃ (A1 : Option Addr) (n1 c1 : Nat), v = .tuple #[.slice A1 n1 c1, .int .i64 ((agree a b).2.1), .int .i64 ((agree a b).2.2)] ∧ RdP w' A1 n1 (agree a b).1 ∧ Below w.heap.size w w') := by
  obtain ⟨bs1, os2, hA3, hc4⟩ := hs.flat
  have hln5 := hs.len
  have hbd6 := hs.bd
  have hlen_a := hs.len
  obtain ⟨bs7, os8, hA9, hc10⟩ := hs2.flat
  have hln11 := hs2.len
  have hbd12 := hs2.bd
  have hlen_b := hs2.len
  refine ret_of (args := [.slice A n c, .slice A2 n2 c2]) Try.func10 rfl Try.ntmps10 rfl (rs := [.tmp 4, .tmp 5, .tmp 6]) rfl ?_
  refine wc_seq ?_
  refine wc_region ?_
  refine wl_op rfl (op_assign rfl rfl ?_)
  refine wl_op rfl (op_assign rfl rfl ?_)
  refine wl_op rfl (op_assign rfl rfl ?_)
  refine (wl_done (then_norm ?_))
  refine wc_seq ?_
  refine wc_region ?_
  refine wl_op rfl (op_move rfl rfl ?_)
  refine wl_op rfl (op_call ent36 rfl (Calls_spec hs hn) rfl ?_)
  rintro _ W17 ⟨A113, n114, c115, rfl, hp16, hE18⟩
  refine wl_op rfl (op_move rfl rfl ?_)
  refine wl_op rfl (op_extract (v := .slice A113 n114 c115) rfl rfl rfl ?_)
  refine wl_op rfl (op_extract (v := .int .i64 (chosenE a)) rfl rfl rfl ?_)
  refine wl_op rfl (op_assign rfl rfl ?_)
  refine wl_op rfl (op_assign rfl rfl ?_)
  refine (wl_done (then_norm ?_))
  refine WC.sub [(1, .slice A2 n2 c2), (4, .slice none 0 0), (5, .int .i64 0), (6, .int .i64 0), (7, .slice A113 n114 c115), (8, .int .i64 (chosenE a))] ⟨rfl, rfl, rfl, rfl, rfl, rfl, trivial⟩ ?_
  refine wc_seq ?_
  refine wc_region ?_
  refine wl_op rfl (op_move rfl rfl ?_)
  have hB19 : Below w.heap.size w W17 := (below_step (Below.refl _ _) hE18)
  refine wl_op rfl (op_call ent36 rfl (Calls_spec (hs2.ext (flat_lifts _) hB19) hn2) rfl ?_)
  rintro _ W24 ⟨A120, n121, c122, rfl, hp23, hE25⟩
  refine wl_op rfl (op_move rfl rfl ?_)
  refine wl_op rfl (op_extract (v := .slice A120 n121 c122) rfl rfl rfl ?_)
  refine wl_op rfl (op_extract (v := .int .i64 (chosenE b)) rfl rfl rfl ?_)
  refine wl_op rfl (op_assign rfl rfl ?_)
  refine wl_op rfl (op_assign rfl rfl ?_)
  refine (wl_done (then_norm ?_))
  refine WC.sub [(4, .slice none 0 0), (5, .int .i64 0), (6, .int .i64 0), (7, .slice A113 n114 c115), (8, .int .i64 (chosenE a)), (9, .slice A120 n121 c122), (10, .int .i64 (chosenE b))] ⟨rfl, rfl, rfl, rfl, rfl, rfl, rfl, trivial⟩ ?_
  refine wc_seq ?_
  refine wc_seq ?_
  refine wc_text [(4, .slice none 0 0), (5, .int .i64 0), (6, .int .i64 0), (7, .slice A113 n114 c115), (8, .int .i64 (chosenE a)), (9, .slice A120 n121 c122), (10, .int .i64 (chosenE b))] ⟨rfl, rfl, rfl, rfl, rfl, rfl, rfl, trivial⟩ [fun v _ => v = .int .i64 (chosenE a), fun v _ => v = .bool (!decide (chosenE a = 0)), fun v _ => v = .bool (!decide (chosenE a = 0)), fun v _ => v = (bif (!(!decide (chosenE a = 0))) then (.int .i64 (chosenE b)) else undef), fun v _ => v = (bif (!(!decide (chosenE a = 0))) then (.bool (!decide (chosenE b = 0))) else undef), fun v _ => v = .bool ((!decide (chosenE a = 0)) || (!decide (chosenE b = 0)))] [[], [0], [1], [2], [2, 3], [2, 4]] [5] rfl rfl rfl ⟨fun _ _ _ _ h => h, fun _ _ _ _ h => h, fun _ _ _ _ h => h, fun _ _ _ _ h => h, fun _ _ _ _ h => h, fun _ _ _ _ h => h, trivial⟩ ⟨?_, ?_, ?_, ?_, ?_, ?_, trivial⟩ ?_
  · intro W26 hW27
    refine gather_nil ?_
    refine opg_none rfl ?_
    exact op_move rfl rfl ⟨told rfl rfl rfl, (Below.refl _ _)⟩
  · intro W26 hW27
    rintro _ rfl
    refine gather_nil ?_
    refine opg_none rfl ?_
    exact op_neq rfl rfl rfl ⟨told rfl rfl rfl, (Below.refl _ _)⟩
  · intro W26 hW27
    rintro _ rfl
    refine gather_nil ?_
    refine opg_none rfl ?_
    exact op_move rfl rfl ⟨told rfl rfl rfl, (Below.refl _ _)⟩
  · intro W26 hW27
    rintro _ rfl
    refine gather_nil ?_
    refine opg_f1 rfl rfl (fun hg28 => ?_) (fun h => by rw [h, cond_false])
    exact op_move rfl rfl ⟨told rfl rfl (by rw [hg28, cond_true]), (Below.refl _ _)⟩
  · intro W26 hW27
    rintro _ rfl
    intro v29 (hv30 : v29 = bif (!(!decide (chosenE a = 0))) then (.int .i64 (chosenE b)) else undef)
    refine gather_nil ?_
    refine opg_f1 rfl rfl (fun hg31 => ?_) (fun h => by rw [h, cond_false])
    obtain rfl : v29 = .int .i64 (chosenE b) := by rw [hv30, hg31, cond_true]
    exact op_neq rfl rfl rfl ⟨told rfl rfl (by rw [hg31, cond_true]), (Below.refl _ _)⟩
  · intro W26 hW27
    rintro _ rfl
    intro v32 (hv33 : v32 = bif (!(!decide (chosenE a = 0))) then (.bool (!decide (chosenE b = 0))) else undef)
    refine gather_nil ?_
    refine opg_none rfl ?_
    exact op_or rfl rfl rfl (fun h => by rw [hv33, (not_i h), cond_true]) rfl ⟨told rfl rfl rfl, (Below.refl _ _)⟩
  intro W34 hW35
  rintro _ rfl
  refine gather_nil ?_
  refine (then_norm ?_)
  refine wc_cond (b := (!decide (chosenE a = 0)) || (!decide (chosenE b = 0))) rfl (fun hc36 => ?_) (fun hc36 => ?_)
  · have hinv : ¬ (validSet a = true ∧ validSet b = true) := by rw [← chosenE_0, ← chosenE_0]; intro h; rw [h.1, h.2] at hc36; cases hc36
    refine wc_seq ?_
    refine wc_region ?_
    refine wl_op rfl (op_assign rfl rfl ?_)
    refine wl_op rfl (op_assign rfl rfl ?_)
    refine wl_op rfl (op_assign rfl rfl ?_)
    refine (wl_done (then_norm ?_))
    refine wc_ret ?_
    refine (then_ret ?_)
    have hB37 : Below w.heap.size w W34 := (below_step (below_step hB19 hE25) hW35)
    refine ⟨[_, _, _], ⟨rfl, rfl, rfl, trivial⟩, ⟨none, 0, 0, ?_, (by rw [agree, if_neg hinv]; exact rd_nil _ _ _), hB37⟩⟩
    rw [agree, if_neg hinv]
    rfl
  · have hval : validSet a = true ∧ validSet b = true := by rw [← chosenE_0, ← chosenE_0]; simpa using hc36
    obtain ⟨hva, hvb⟩ := hval
    refine wc_skip ?_
    refine (then_norm ?_)
    refine wc_seq ?_
    refine wc_region ?_
    refine wl_op rfl (op_move rfl rfl ?_)
    have hB38 : Below W17.heap.size W17 W34 := (below_step (below_step (Below.refl _ _) hE25) hW35)
    refine wl_op rfl (op_call ent40 rfl (value_spec (hp16.ext (flat_lifts _) hB38) (asc_chosen hva _) (by omega) (by omega)) rfl ?_)
    rintro _ W39 ⟨rfl, hE40⟩
    refine wl_op rfl (op_move rfl rfl ?_)
    have hB41 : Below W24.heap.size W24 W39 := (below_step (below_step (Below.refl _ _) hW35) hE40)
    refine wl_op rfl (op_call ent40 rfl (value_spec (hp23.ext (flat_lifts _) hB41) (asc_chosen hvb _) (by omega) (by omega)) rfl ?_)
    rintro _ W42 ⟨rfl, hE43⟩
    refine wl_op rfl (op_call ent42 rfl (greater_spec ent43 (fun W x hx hW => Agree1_spec) (f := fun x => x)) rfl ?_)
    rintro _ W44 ⟨rfl, hE45⟩
    refine wl_op rfl (op_build (v := .agg #[.int .i64 8, .int .i64 (if (fun x => x) (valueOf (chosenL a keepCalls) 8) < (fun x => x) (valueOf (chosenL b keepCalls) 8) then (valueOf (chosenL b keepCalls) 8) else (valueOf (chosenL a keepCalls) 8))]) rfl (fun w => by kernel_rfl) rfl ?_)
    refine wl_op rfl (op_move rfl rfl ?_)
    have hB46 : Below W17.heap.size W17 W44 := (below_step (below_step (below_step hB38 hE40) hE43) hE45)
    refine wl_op rfl (op_call ent40 rfl (value_spec (hp16.ext (flat_lifts _) hB46) (asc_chosen hva _) (by omega) (by omega)) rfl ?_)
    rintro _ W47 ⟨rfl, hE48⟩
    refine wl_op rfl (op_move rfl rfl ?_)
    have hB49 : Below W24.heap.size W24 W47 := (below_step (below_step (below_step hB41 hE43) hE45) hE48)
    refine wl_op rfl (op_call ent40 rfl (value_spec (hp23.ext (flat_lifts _) hB49) (asc_chosen hvb _) (by omega) (by omega)) rfl ?_)
    rintro _ W50 ⟨rfl, hE51⟩
    refine wl_op rfl (op_call ent42 rfl (greater_spec ent44 (fun W x hx hW => strength_spec (rng9 hva hvb hx).1 (rng9 hva hvb hx).2) (f := strengthI)) rfl ?_)
    rintro _ W52 ⟨rfl, hE53⟩
    refine wl_op rfl (op_build (v := .agg #[.int .i64 9, .int .i64 (if strengthI (valueOf (chosenL a keepCalls) 9) < strengthI (valueOf (chosenL b keepCalls) 9) then (valueOf (chosenL b keepCalls) 9) else (valueOf (chosenL a keepCalls) 9))]) rfl (fun w => by kernel_rfl) rfl ?_)
    refine wl_op rfl (op_move rfl rfl ?_)
    have hB54 : Below W17.heap.size W17 W52 := (below_step (below_step (below_step hB46 hE48) hE51) hE53)
    refine wl_op rfl (op_call ent40 rfl (value_spec (hp16.ext (flat_lifts _) hB54) (asc_chosen hva _) (by omega) (by omega)) rfl ?_)
    rintro _ W55 ⟨rfl, hE56⟩
    refine wl_op rfl (op_build (v := .agg #[.int .i64 10, .int .i64 (valueOf (chosenL a keepCalls) 10)]) rfl (fun w => by kernel_rfl) rfl ?_)
    refine wl_op rfl (op_move rfl rfl ?_)
    have hB57 : Below W17.heap.size W17 W55 := (below_step hB54 hE56)
    refine wl_op rfl (op_call ent40 rfl (value_spec (hp16.ext (flat_lifts _) hB57) (asc_chosen hva _) (by omega) (by omega)) rfl ?_)
    rintro _ W58 ⟨rfl, hE59⟩
    refine wl_op rfl (op_build (v := .agg #[.int .i64 11, .int .i64 (valueOf (chosenL a keepCalls) 11)]) rfl (fun w => by kernel_rfl) rfl ?_)
    refine wl_op rfl (op_move rfl rfl ?_)
    have hB60 : Below W17.heap.size W17 W58 := (below_step hB57 hE59)
    refine wl_op rfl (op_call ent40 rfl (value_spec (hp16.ext (flat_lifts _) hB60) (asc_chosen hva _) (by omega) (by omega)) rfl ?_)
    rintro _ W61 ⟨rfl, hE62⟩
    refine wl_op rfl (op_build (v := .agg #[.int .i64 12, .int .i64 (valueOf (chosenL a keepCalls) 12)]) rfl (fun w => by kernel_rfl) rfl ?_)
    refine wl_op rfl (op_move rfl rfl ?_)
    have hB63 : Below W17.heap.size W17 W61 := (below_step hB60 hE62)
    refine wl_op rfl (op_call ent40 rfl (value_spec (hp16.ext (flat_lifts _) hB63) (asc_chosen hva _) (by omega) (by omega)) rfl ?_)
    rintro _ W64 ⟨rfl, hE65⟩
    refine wl_op rfl (op_build (v := .agg #[.int .i64 13, .int .i64 (valueOf (chosenL a keepCalls) 13)]) rfl (fun w => by kernel_rfl) rfl ?_)
    refine wl_op rfl (op_buildSlice (cs := #[.int .i64 8, .int .i64 (if (fun x => x) (valueOf (chosenL a keepCalls) 8) < (fun x => x) (valueOf (chosenL b keepCalls) 8) then (valueOf (chosenL b keepCalls) 8) else (valueOf (chosenL a keepCalls) 8)), .int .i64 9, .int .i64 (if strengthI (valueOf (chosenL a keepCalls) 9) < strengthI (valueOf (chosenL b keepCalls) 9) then (valueOf (chosenL b keepCalls) 9) else (valueOf (chosenL a keepCalls) 9)), .int .i64 10, .int .i64 (valueOf (chosenL a keepCalls) 10), .int .i64 11, .int .i64 (valueOf (chosenL a keepCalls) 11), .int .i64 12, .int .i64 (valueOf (chosenL a keepCalls) 12), .int .i64 13, .int .i64 (valueOf (chosenL a keepCalls) 13)]) (e := 46) rfl (fun w => by kernel_rfl) rfl ?_)
    intro W66 b67 hN68
    have hb69 : W66.heap[b67]? = some (.cells #[.int .i64 8, .int .i64 (if (fun x => x) (valueOf (chosenL a keepCalls) 8) < (fun x => x) (valueOf (chosenL b keepCalls) 8) then (valueOf (chosenL b keepCalls) 8) else (valueOf (chosenL a keepCalls) 8)), .int .i64 9, .int .i64 (if strengthI (valueOf (chosenL a keepCalls) 9) < strengthI (valueOf (chosenL b keepCalls) 9) then (valueOf (chosenL b keepCalls) 9) else (valueOf (chosenL a keepCalls) 9)), .int .i64 10, .int .i64 (valueOf (chosenL a keepCalls) 10), .int .i64 11, .int .i64 (valueOf (chosenL a keepCalls) 11), .int .i64 12, .int .i64 (valueOf (chosenL a keepCalls) 12), .int .i64 13, .int .i64 (valueOf (chosenL a keepCalls) 13)] 46 (0, 0)) := hN68.blk
    refine wl_op rfl (op_assign rfl rfl ?_)
    refine (wl_done (then_norm ?_))
    refine WC.sub [(4, .slice none 0 0), (5, .int .i64 0), (6, .int .i64 0), (8, .int .i64 (chosenE a)), (9, .slice A120 n121 c122), (11, .slice (some ⟨b67, 0, none⟩) 6 6)] ⟨rfl, rfl, rfl, rfl, rfl, rfl, trivial⟩ ?_
    refine wc_join (fun l' w' => Sub [(4, .slice none 0 0), (5, .int .i64 0), (6, .int .i64 0), (8, .int .i64 (chosenE a)), (9, .slice A120 n121 c122), (11, .slice (some ⟨b67, 0, none⟩) 6 6)] l' ∧ Below W64.heap.size W64 w' ∧ w'.heap[b67]? = some (.cells #[.int .i64 8, .int .i64 (if (fun x => x) (valueOf (chosenL a keepCalls) 8) < (fun x => x) (valueOf (chosenL b keepCalls) 8) then (valueOf (chosenL b keepCalls) 8) else (valueOf (chosenL a keepCalls) 8)), .int .i64 9, .int .i64 (if strengthI (valueOf (chosenL a keepCalls) 9) < strengthI (valueOf (chosenL b keepCalls) 9) then (valueOf (chosenL b keepCalls) 9) else (valueOf (chosenL a keepCalls) 9)), .int .i64 10, .int .i64 (limitOf (agC a) (agC b)), .int .i64 11, .int .i64 (valueOf (chosenL a keepCalls) 11), .int .i64 12, .int .i64 (valueOf (chosenL a keepCalls) 12), .int .i64 13, .int .i64 (valueOf (chosenL a keepCalls) 13)] 46 (0, 0))) ?_ ?_
    · refine wc_seq ?_
      refine wc_region ?_
      refine wl_op rfl (op_move rfl rfl ?_)
      have hB71 : Below W24.heap.size W24 W66 := (below_new (below_step (below_step (below_step (below_step (below_step (below_step hB49 hE51) hE53) hE56) hE59) hE62) hE65) hN68)
      refine wl_op rfl (op_call ent40 rfl (value_spec (hp23.ext (flat_lifts _) hB71) (asc_chosen hvb _) (by omega) (by omega)) rfl ?_)
      rintro _ W72 ⟨rfl, hE73⟩
      refine wl_op rfl (op_assign rfl rfl ?_)
      refine (wl_done (then_norm ?_))
      refine wc_seq ?_
      refine wc_text [(4, .slice none 0 0), (5, .int .i64 0), (6, .int .i64 0), (8, .int .i64 (chosenE a)), (9, .slice A120 n121 c122), (11, .slice (some ⟨b67, 0, none⟩) 6 6), (12, .int .i64 (valueOf (chosenL b keepCalls) 10))] ⟨rfl, rfl, rfl, rfl, rfl, rfl, rfl, trivial⟩ [fun v _ => v = .int .i64 (valueOf (chosenL b keepCalls) 10), fun v _ => v = .bool (decide (0 < valueOf (chosenL b keepCalls) 10)), fun v _ => v = .bool (decide (0 < valueOf (chosenL b keepCalls) 10)), fun v _ => v = (bif (decide (0 < valueOf (chosenL b keepCalls) 10)) then (.slice (some ⟨b67, 0, none⟩) 6 6) else undef), fun v _ => v = (bif (decide (0 < valueOf (chosenL b keepCalls) 10)) then (.pointer (some ⟨b67, 4, none⟩)) else undef), fun v _ => v = (bif (decide (0 < valueOf (chosenL b keepCalls) 10)) then (.pointer (some ⟨b67, 4 + 1, none⟩)) else undef), fun v _ => v = (bif (decide (0 < valueOf (chosenL b keepCalls) 10)) then (.int .i64 (valueOf (chosenL a keepCalls) 10)) else undef), fun v _ => v = (bif (decide (0 < valueOf (chosenL b keepCalls) 10)) then (.bool (decide (valueOf (chosenL a keepCalls) 10 = 0))) else undef), fun v _ => v = (bif (decide (0 < valueOf (chosenL b keepCalls) 10)) then (.bool (decide (valueOf (chosenL a keepCalls) 10 = 0))) else undef), fun v _ => v = (bif ((decide (0 < valueOf (chosenL b keepCalls) 10)) && (!(decide (valueOf (chosenL a keepCalls) 10 = 0)))) then (.int .i64 (valueOf (chosenL b keepCalls) 10)) else undef), fun v _ => v = (bif ((decide (0 < valueOf (chosenL b keepCalls) 10)) && (!(decide (valueOf (chosenL a keepCalls) 10 = 0)))) then (.slice (some ⟨b67, 0, none⟩) 6 6) else undef), fun v _ => v = (bif ((decide (0 < valueOf (chosenL b keepCalls) 10)) && (!(decide (valueOf (chosenL a keepCalls) 10 = 0)))) then (.pointer (some ⟨b67, 4, none⟩)) else undef), fun v _ => v = (bif ((decide (0 < valueOf (chosenL b keepCalls) 10)) && (!(decide (valueOf (chosenL a keepCalls) 10 = 0)))) then (.pointer (some ⟨b67, 4 + 1, none⟩)) else undef), fun v _ => v = (bif ((decide (0 < valueOf (chosenL b keepCalls) 10)) && (!(decide (valueOf (chosenL a keepCalls) 10 = 0)))) then (.int .i64 (valueOf (chosenL a keepCalls) 10)) else undef), fun v _ => v = (bif ((decide (0 < valueOf (chosenL b keepCalls) 10)) && (!(decide (valueOf (chosenL a keepCalls) 10 = 0)))) then (.bool (decide (valueOf (chosenL b keepCalls) 10 < valueOf (chosenL a keepCalls) 10))) else undef), fun v _ => v = (bif (decide (0 < valueOf (chosenL b keepCalls) 10)) then (.bool ((decide (valueOf (chosenL a keepCalls) 10 = 0)) || (decide (valueOf (chosenL b keepCalls) 10 < valueOf (chosenL a keepCalls) 10)))) else undef), fun v _ => v = .bool ((decide (0 < valueOf (chosenL b keepCalls) 10)) && ((decide (valueOf (chosenL a keepCalls) 10 = 0)) || (decide (valueOf (chosenL b keepCalls) 10 < valueOf (chosenL a keepCalls) 10))))] [[], [0], [1], [2], [2, 3], [2, 4], [2, 5], [2, 6], [2, 7], [8], [8], [8, 10], [8, 11], [8, 12], [8, 9, 13], [2, 8, 14], [2, 15]] [16] rfl rfl rfl ⟨fun _ _ _ _ h => h, fun _ _ _ _ h => h, fun _ _ _ _ h => h, fun _ _ _ _ h => h, fun _ _ _ _ h => h, fun _ _ _ _ h => h, fun _ _ _ _ h => h, fun _ _ _ _ h => h, fun _ _ _ _ h => h, fun _ _ _ _ h => h, fun _ _ _ _ h => h, fun _ _ _ _ h => h, fun _ _ _ _ h => h, fun _ _ _ _ h => h, fun _ _ _ _ h => h, fun _ _ _ _ h => h, fun _ _ _ _ h => h, trivial⟩ ⟨?_, ?_, ?_, ?_, ?_, ?_, ?_, ?_, ?_, ?_, ?_, ?_, ?_, ?_, ?_, ?_, ?_, trivial⟩ ?_
      · intro W74 hW75
        refine gather_nil ?_
        refine opg_none rfl ?_
        exact op_move rfl rfl ⟨told rfl rfl rfl, (Below.refl _ _)⟩
      · intro W74 hW75
        rintro _ rfl
        refine gather_nil ?_
        refine opg_none rfl ?_
        exact op_gtr rfl rfl rfl ⟨told rfl rfl rfl, (Below.refl _ _)⟩
      · intro W74 hW75
        rintro _ rfl
        refine gather_nil ?_
        refine opg_none rfl ?_
        exact op_move rfl rfl ⟨told rfl rfl rfl, (Below.refl _ _)⟩
      · intro W74 hW75
        rintro _ rfl
        refine gather_nil ?_
        refine opg_t1 rfl rfl (fun hg78 => ?_) (fun h => by rw [h, cond_false])
        exact op_move rfl rfl ⟨told rfl rfl (by rw [hg78, cond_true]), (Below.refl _ _)⟩
      · intro W74 hW75
        rintro _ rfl
        intro v79 (hv80 : v79 = bif (decide (0 < valueOf (chosenL b keepCalls) 10)) then (.slice (some ⟨b67, 0, none⟩) 6 6) else undef)
        refine gather_nil ?_
        refine opg_t1 rfl rfl (fun hg81 => ?_) (fun h => by rw [h, cond_false])
        have hd82 := of_decide_eq_true hg81
        obtain rfl : v79 = .slice (some ⟨b67, 0, none⟩) 6 6 := by rw [hv80, hg81, cond_true]
        exact op_indexAddr (b := b67) (o := 0) (j := 2) rfl rfl und22 sz46 rfl rfl (by omega) rfl ⟨told rfl rfl (by rw [hg81, cond_true]), (Below.refl _ _)⟩
      · intro W74 hW75
        rintro _ rfl
        intro v83 (hv84 : v83 = bif (decide (0 < valueOf (chosenL b keepCalls) 10)) then (.pointer (some ⟨b67, 4, none⟩)) else undef)
        refine gather_nil ?_
        refine opg_t1 rfl rfl (fun hg85 => ?_) (fun h => by rw [h, cond_false])
        obtain rfl : v83 = .pointer (some ⟨b67, 4, none⟩) := by rw [hv84, hg85, cond_true]
        exact op_fieldAddr rfl fa46_1 rfl ⟨told rfl rfl (by rw [hg85, cond_true]), (Below.refl _ _)⟩
      · intro W74 hW75
        rintro _ rfl
        intro v86 (hv87 : v86 = bif (decide (0 < valueOf (chosenL b keepCalls) 10)) then (.pointer (some ⟨b67, 4 + 1, none⟩)) else undef)
        refine gather_nil ?_
        refine opg_t1 rfl rfl (fun hg88 => ?_) (fun h => by rw [h, cond_false])
        have hd89 := of_decide_eq_true hg88
        obtain rfl : v86 = .pointer (some ⟨b67, 4 + 1, none⟩) := by rw [hv87, hg88, cond_true]
        have hb90 : W74.heap[b67]? = some (.cells #[.int .i64 8, .int .i64 (if (fun x => x) (valueOf (chosenL a keepCalls) 8) < (fun x => x) (valueOf (chosenL b keepCalls) 8) then (valueOf (chosenL b keepCalls) 8) else (valueOf (chosenL a keepCalls) 8)), .int .i64 9, .int .i64 (if strengthI (valueOf (chosenL a keepCalls) 9) < strengthI (valueOf (chosenL b keepCalls) 9) then (valueOf (chosenL b keepCalls) 9) else (valueOf (chosenL a keepCalls) 9)), .int .i64 10, .int .i64 (valueOf (chosenL a keepCalls) 10), .int .i64 11, .int .i64 (valueOf (chosenL a keepCalls) 11), .int .i64 12, .int .i64 (valueOf (chosenL a keepCalls) 12), .int .i64 13, .int .i64 (valueOf (chosenL a keepCalls) 13)] 46 (0, 0)) := (blk_ext (blk_ext hb69 hE73) hW75)
        exact op_load1 (v := .int .i64 (valueOf (chosenL a keepCalls) 10)) rfl agg3 (cell_blk hb90 rfl) rfl ⟨told rfl rfl (by rw [hg88, cond_true]), (Below.refl _ _)⟩
      · intro W74 hW75
        rintro _ rfl
        intro v91 (hv92 : v91 = bif (decide (0 < valueOf (chosenL b keepCalls) 10)) then (.int .i64 (valueOf (chosenL a keepCalls) 10)) else undef)
        refine gather_nil ?_
        refine opg_t1 rfl rfl (fun hg93 => ?_) (fun h => by rw [h, cond_false])
        have hd94 := of_decide_eq_true hg93
        obtain rfl : v91 = .int .i64 (valueOf (chosenL a keepCalls) 10) := by rw [hv92, hg93, cond_true]
        exact op_eql rfl rfl rfl ⟨told rfl rfl (by rw [hg93, cond_true]), (Below.refl _ _)⟩
      · intro W74 hW75
        rintro _ rfl
        intro v95 (hv96 : v95 = bif (decide (0 < valueOf (chosenL b keepCalls) 10)) then (.bool (decide (valueOf (chosenL a keepCalls) 10 = 0))) else undef)
        refine gather_nil ?_
        refine opg_t1 rfl rfl (fun hg97 => ?_) (fun h => by rw [h, cond_false])
        obtain rfl : v95 = .bool (decide (valueOf (chosenL a keepCalls) 10 = 0)) := by rw [hv96, hg97, cond_true]
        exact op_move rfl rfl ⟨told rfl rfl (by rw [hg97, cond_true]), (Below.refl _ _)⟩
      · intro W74 hW75
        intro v98 (hv99 : v98 = bif (decide (0 < valueOf (chosenL b keepCalls) 10)) then (.bool (decide (valueOf (chosenL a keepCalls) 10 = 0))) else undef)
        refine gather_nil ?_
        refine opg_f rfl rfl hv99 (fun hg100 => ?_) (fun h => by rw [h, cond_false])
        obtain rfl : v98 = .bool (decide (valueOf (chosenL a keepCalls) 10 = 0)) := by rw [hv99, (and_l hg100), cond_true]
        exact op_move rfl rfl ⟨told rfl rfl (by rw [hg100, cond_true]), (Below.refl _ _)⟩
      · intro W74 hW75
        intro v101 (hv102 : v101 = bif (decide (0 < valueOf (chosenL b keepCalls) 10)) then (.bool (decide (valueOf (chosenL a keepCalls) 10 = 0))) else undef)
        refine gather_nil ?_
        refine opg_f rfl rfl hv102 (fun hg103 => ?_) (fun h => by rw [h, cond_false])
        obtain rfl : v101 = .bool (decide (valueOf (chosenL a keepCalls) 10 = 0)) := by rw [hv102, (and_l hg103), cond_true]
        exact op_move rfl rfl ⟨told rfl rfl (by rw [hg103, cond_true]), (Below.refl _ _)⟩
      · intro W74 hW75
        intro v104 (hv105 : v104 = bif (decide (0 < valueOf (chosenL b keepCalls) 10)) then (.bool (decide (valueOf (chosenL a keepCalls) 10 = 0))) else undef)
        intro v106 (hv107 : v106 = bif ((decide (0 < valueOf (chosenL b keepCalls) 10)) && (!(decide (valueOf (chosenL a keepCalls) 10 = 0)))) then (.slice (some ⟨b67, 0, none⟩) 6 6) else undef)
        refine gather_nil ?_
        refine opg_f rfl rfl hv105 (fun hg108 => ?_) (fun h => by rw [h, cond_false])
        have hd109 := of_decide_eq_true (and_l hg108)
        have hd110 := of_decide_eq_false (not_t (and_r hg108))
        obtain rfl : v104 = .bool (decide (valueOf (chosenL a keepCalls) 10 = 0)) := by rw [hv105, (and_l hg108), cond_true]
        obtain rfl : v106 = .slice (some ⟨b67, 0, none⟩) 6 6 := by rw [hv107, hg108, cond_true]
        exact op_indexAddr (b := b67) (o := 0) (j := 2) rfl rfl und22 sz46 rfl rfl (by omega) rfl ⟨told rfl rfl (by rw [hg108, cond_true]), (Below.refl _ _)⟩
      · intro W74 hW75
        intro v111 (hv112 : v111 = bif (decide (0 < valueOf (chosenL b keepCalls) 10)) then (.bool (decide (valueOf (chosenL a keepCalls) 10 = 0))) else undef)
        intro v113 (hv114 : v113 = bif ((decide (0 < valueOf (chosenL b keepCalls) 10)) && (!(decide (valueOf (chosenL a keepCalls) 10 = 0)))) then (.pointer (some ⟨b67, 4, none⟩)) else undef)
        refine gather_nil ?_
        refine opg_f rfl rfl hv112 (fun hg115 => ?_) (fun h => by rw [h, cond_false])
        obtain rfl : v111 = .bool (decide (valueOf (chosenL a keepCalls) 10 = 0)) := by rw [hv112, (and_l hg115), cond_true]
        obtain rfl : v113 = .pointer (some ⟨b67, 4, none⟩) := by rw [hv114, hg115, cond_true]
        exact op_fieldAddr rfl fa46_1 rfl ⟨told rfl rfl (by rw [hg115, cond_true]), (Below.refl _ _)⟩
      · intro W74 hW75
        intro v116 (hv117 : v116 = bif (decide (0 < valueOf (chosenL b keepCalls) 10)) then (.bool (decide (valueOf (chosenL a keepCalls) 10 = 0))) else undef)
        intro v118 (hv119 : v118 = bif ((decide (0 < valueOf (chosenL b keepCalls) 10)) && (!(decide (valueOf (chosenL a keepCalls) 10 = 0)))) then (.pointer (some ⟨b67, 4 + 1, none⟩)) else undef)
        refine gather_nil ?_
        refine opg_f rfl rfl hv117 (fun hg120 => ?_) (fun h => by rw [h, cond_false])
        have hd121 := of_decide_eq_true (and_l hg120)
        have hd122 := of_decide_eq_false (not_t (and_r hg120))
        obtain rfl : v116 = .bool (decide (valueOf (chosenL a keepCalls) 10 = 0)) := by rw [hv117, (and_l hg120), cond_true]
        obtain rfl : v118 = .pointer (some ⟨b67, 4 + 1, none⟩) := by rw [hv119, hg120, cond_true]
        have hb123 : W74.heap[b67]? = some (.cells #[.int .i64 8, .int .i64 (if (fun x => x) (valueOf (chosenL a keepCalls) 8) < (fun x => x) (valueOf (chosenL b keepCalls) 8) then (valueOf (chosenL b keepCalls) 8) else (valueOf (chosenL a keepCalls) 8)), .int .i64 9, .int .i64 (if strengthI (valueOf (chosenL a keepCalls) 9) < strengthI (valueOf (chosenL b keepCalls) 9) then (valueOf (chosenL b keepCalls) 9) else (valueOf (chosenL a keepCalls) 9)), .int .i64 10, .int .i64 (valueOf (chosenL a keepCalls) 10), .int .i64 11, .int .i64 (valueOf (chosenL a keepCalls) 11), .int .i64 12, .int .i64 (valueOf (chosenL a keepCalls) 12), .int .i64 13, .int .i64 (valueOf (chosenL a keepCalls) 13)] 46 (0, 0)) := (blk_ext (blk_ext hb69 hE73) hW75)
        exact op_load1 (v := .int .i64 (valueOf (chosenL a keepCalls) 10)) rfl agg3 (cell_blk hb123 rfl) rfl ⟨told rfl rfl (by rw [hg120, cond_true]), (Below.refl _ _)⟩
      · intro W74 hW75
        intro v124 (hv125 : v124 = bif (decide (0 < valueOf (chosenL b keepCalls) 10)) then (.bool (decide (valueOf (chosenL a keepCalls) 10 = 0))) else undef)
        intro v126 (hv127 : v126 = bif ((decide (0 < valueOf (chosenL b keepCalls) 10)) && (!(decide (valueOf (chosenL a keepCalls) 10 = 0)))) then (.int .i64 (valueOf (chosenL b keepCalls) 10)) else undef)
        intro v128 (hv129 : v128 = bif ((decide (0 < valueOf (chosenL b keepCalls) 10)) && (!(decide (valueOf (chosenL a keepCalls) 10 = 0)))) then (.int .i64 (valueOf (chosenL a keepCalls) 10)) else undef)
        refine gather_nil ?_
        refine opg_f rfl rfl hv125 (fun hg130 => ?_) (fun h => by rw [h, cond_false])
        have hd131 := of_decide_eq_true (and_l hg130)
        have hd132 := of_decide_eq_false (not_t (and_r hg130))
        obtain rfl : v124 = .bool (decide (valueOf (chosenL a keepCalls) 10 = 0)) := by rw [hv125, (and_l hg130), cond_true]
        obtain rfl : v126 = .int .i64 (valueOf (chosenL b keepCalls) 10) := by rw [hv127, hg130, cond_true]
        obtain rfl : v128 = .int .i64 (valueOf (chosenL a keepCalls) 10) := by rw [hv129, hg130, cond_true]
        exact op_lss rfl rfl rfl ⟨told rfl rfl (by rw [hg130, cond_true]), (Below.refl _ _)⟩
      · intro W74 hW75
        rintro _ rfl
        intro v133 (hv134 : v133 = bif (decide (0 < valueOf (chosenL b keepCalls) 10)) then (.bool (decide (valueOf (chosenL a keepCalls) 10 = 0))) else undef)
        intro v135 (hv136 : v135 = bif ((decide (0 < valueOf (chosenL b keepCalls) 10)) && (!(decide (valueOf (chosenL a keepCalls) 10 = 0)))) then (.bool (decide (valueOf (chosenL b keepCalls) 10 < valueOf (chosenL a keepCalls) 10))) else undef)
        refine gather_nil ?_
        refine opg_t1 rfl rfl (fun hg137 => ?_) (fun h => by rw [h, cond_false])
        obtain rfl : v133 = .bool (decide (valueOf (chosenL a keepCalls) 10 = 0)) := by rw [hv134, hg137, cond_true]
        exact op_or rfl rfl rfl (fun h => by rw [hv136, (and_i hg137 (not_i h)), cond_true]) rfl ⟨told rfl rfl (by rw [hg137, cond_true]), (Below.refl _ _)⟩
      · intro W74 hW75
        rintro _ rfl
        intro v138 (hv139 : v138 = bif (decide (0 < valueOf (chosenL b keepCalls) 10)) then (.bool ((decide (valueOf (chosenL a keepCalls) 10 = 0)) || (decide (valueOf (chosenL b keepCalls) 10 < valueOf (chosenL a keepCalls) 10)))) else undef)
        refine gather_nil ?_
        refine opg_none rfl ?_
        exact op_and rfl rfl rfl (fun h => by rw [hv139, h, cond_true]) rfl ⟨told rfl rfl rfl, (Below.refl _ _)⟩
      intro W140 hW141
      rintro _ rfl
      refine gather_nil ?_
      refine (then_norm ?_)
      refine wc_cond (b := (decide (0 < valueOf (chosenL b keepCalls) 10)) && ((decide (valueOf (chosenL a keepCalls) 10 = 0)) || (decide (valueOf (chosenL b keepCalls) 10 < valueOf (chosenL a keepCalls) 10)))) rfl (fun hc142 => ?_) (fun hc142 => ?_)
      · refine wc_region ?_
        refine wl_op rfl (op_move rfl rfl ?_)
        refine wl_op rfl (op_move rfl rfl ?_)
        refine wl_op rfl (op_indexAddr (b := b67) (o := 0) (j := 2) rfl rfl und22 sz46 rfl rfl (by omega) rfl ?_)
        refine wl_op rfl (op_fieldAddr rfl fa46_1 rfl ?_)
        have hb143 : W140.heap[b67]? = some (.cells #[.int .i64 8, .int .i64 (if (fun x => x) (valueOf (chosenL a keepCalls) 8) < (fun x => x) (valueOf (chosenL b keepCalls) 8) then (valueOf (chosenL b keepCalls) 8) else (valueOf (chosenL a keepCalls) 8)), .int .i64 9, .int .i64 (if strengthI (valueOf (chosenL a keepCalls) 9) < strengthI (valueOf (chosenL b keepCalls) 9) then (valueOf (chosenL b keepCalls) 9) else (valueOf (chosenL a keepCalls) 9)), .int .i64 10, .int .i64 (valueOf (chosenL a keepCalls) 10), .int .i64 11, .int .i64 (valueOf (chosenL a keepCalls) 11), .int .i64 12, .int .i64 (valueOf (chosenL a keepCalls) 12), .int .i64 13, .int .i64 (valueOf (chosenL a keepCalls) 13)] 46 (0, 0)) := (blk_ext (blk_ext hb69 hE73) hW141)
        refine wl_op rfl (op_store rfl rfl sz3 hb143 rfl rfl ?_)
        intro W144 hP145 hb146
        have hb146 : W144.heap[b67]? = some (.cells #[.int .i64 8, .int .i64 (if (fun x => x) (valueOf (chosenL a keepCalls) 8) < (fun x => x) (valueOf (chosenL b keepCalls) 8) then (valueOf (chosenL b keepCalls) 8) else (valueOf (chosenL a keepCalls) 8)), .int .i64 9, .int .i64 (if strengthI (valueOf (chosenL a keepCalls) 9) < strengthI (valueOf (chosenL b keepCalls) 9) then (valueOf (chosenL b keepCalls) 9) else (valueOf (chosenL a keepCalls) 9)), .int .i64 10, .int .i64 (valueOf (chosenL b keepCalls) 10), .int .i64 11, .int .i64 (valueOf (chosenL a keepCalls) 11), .int .i64 12, .int .i64 (valueOf (chosenL a keepCalls) 12), .int .i64 13, .int .i64 (valueOf (chosenL a keepCalls) 13)] 46 (0, 0)) := hb146
        refine (wl_done (then_norm ?_))
        have hl : limitOf (agC a) (agC b) = valueOf (agC b) 10 := by unfold limitOf; rw [if_pos (lim_t hc142)]
        have hB147 : Below W64.heap.size W64 W144 := (hP145.below (below_step (below_step (below_new (Below.refl _ _) hN68) hE73) hW141) (le_new (Below.refl _ _) hN68))
        exact ⟨⟨rfl, rfl, rfl, rfl, rfl, rfl, trivial⟩, hB147, (by rw [hl]; exact hb146)⟩
      · refine wc_skip ?_
        refine (then_norm ?_)
        have hl : limitOf (agC a) (agC b) = valueOf (agC a) 10 := by unfold limitOf; rw [if_neg (lim_f hc142)]
        have hb148 : W140.heap[b67]? = some (.cells #[.int .i64 8, .int .i64 (if (fun x => x) (valueOf (chosenL a keepCalls) 8) < (fun x => x) (valueOf (chosenL b keepCalls) 8) then (valueOf (chosenL b keepCalls) 8) else (valueOf (chosenL a keepCalls) 8)), .int .i64 9, .int .i64 (if strengthI (valueOf (chosenL a keepCalls) 9) < strengthI (valueOf (chosenL b keepCalls) 9) then (valueOf (chosenL b keepCalls) 9) else (valueOf (chosenL a keepCalls) 9)), .int .i64 10, .int .i64 (valueOf (chosenL a keepCalls) 10), .int .i64 11, .int .i64 (valueOf (chosenL a keepCalls) 11), .int .i64 12, .int .i64 (valueOf (chosenL a keepCalls) 12), .int .i64 13, .int .i64 (valueOf (chosenL a keepCalls) 13)] 46 (0, 0)) := (blk_ext (blk_ext hb69 hE73) hW141)
        have hB149 : Below W64.heap.size W64 W140 := (below_step (below_step (below_new (Below.refl _ _) hN68) hE73) hW141)
        exact ⟨⟨rfl, rfl, rfl, rfl, rfl, rfl, trivial⟩, hB149, (by rw [hl]; exact hb148)⟩
    · rintro l' W70 ⟨hsub, hE150, hb151⟩
      refine WC.sub _ hsub ?_
      refine wc_seq ?_
      refine wc_seq ?_
      refine wc_draw mixed [(4, .slice none 0 0), (5, .int .i64 0), (6, .int .i64 0), (8, .int .i64 (chosenE a)), (9, .slice A120 n121 c122), (11, .slice (some ⟨b67, 0, none⟩) 6 6)] ⟨rfl, rfl, rfl, rfl, rfl, rfl, trivial⟩ [fun v _ => v = .slice (some ⟨b67, 0, none⟩) 6 6, fun v _ => v = .pointer (some ⟨b67, 6, none⟩), fun v _ => v = .pointer (some ⟨b67, 6 + 1, none⟩), fun v _ => v = .int .i64 (valueOf (chosenL a keepCalls) 11), fun v _ => v = .slice A120 n121 c122, fun v _ => v = .int .i64 (valueOf (chosenL b keepCalls) 11), fun v _ => v = .bool (decide (valueOf (chosenL b keepCalls) 11 < valueOf (chosenL a keepCalls) 11))] [[], [0], [1], [2], [], [4], [3, 5]] [6] rfl rfl rfl ⟨fun _ _ _ _ h => h, fun _ _ _ _ h => h, fun _ _ _ _ h => h, fun _ _ _ _ h => h, fun _ _ _ _ h => h, fun _ _ _ _ h => h, fun _ _ _ _ h => h, trivial⟩ ⟨?_, ?_, ?_, ?_, ?_, ?_, ?_, trivial⟩ ?_
      · intro W152 hW153
        refine gather_nil ?_
        refine opg_none rfl ?_
        exact op_move rfl rfl ⟨told rfl rfl rfl, (Below.refl _ _)⟩
      · intro W152 hW153
        rintro _ rfl
        refine gather_nil ?_
        refine opg_none rfl ?_
        exact op_indexAddr (b := b67) (o := 0) (j := 3) rfl rfl und22 sz46 rfl rfl (by omega) rfl ⟨told rfl rfl rfl, (Below.refl _ _)⟩
      · intro W152 hW153
        rintro _ rfl
        refine gather_nil ?_
        refine opg_none rfl ?_
        exact op_fieldAddr rfl fa46_1 rfl ⟨told rfl rfl rfl, (Below.refl _ _)⟩
      · intro W152 hW153
        rintro _ rfl
        refine gather_nil ?_
        refine opg_none rfl ?_
        have hb156 : W152.heap[b67]? = some (.cells #[.int .i64 8, .int .i64 (if (fun x => x) (valueOf (chosenL a keepCalls) 8) < (fun x => x) (valueOf (chosenL b keepCalls) 8) then (valueOf (chosenL b keepCalls) 8) else (valueOf (chosenL a keepCalls) 8)), .int .i64 9, .int .i64 (if strengthI (valueOf (chosenL a keepCalls) 9) < strengthI (valueOf (chosenL b keepCalls) 9) then (valueOf (chosenL b keepCalls) 9) else (valueOf (chosenL a keepCalls) 9)), .int .i64 10, .int .i64 (limitOf (agC a) (agC b)), .int .i64 11, .int .i64 (valueOf (chosenL a keepCalls) 11), .int .i64 12, .int .i64 (valueOf (chosenL a keepCalls) 12), .int .i64 13, .int .i64 (valueOf (chosenL a keepCalls) 13)] 46 (0, 0)) := (blk_ext hb151 hW153)
        exact op_load1 (v := .int .i64 (valueOf (chosenL a keepCalls) 11)) rfl agg3 (cell_blk hb156 rfl) rfl ⟨told rfl rfl rfl, (Below.refl _ _)⟩
      · intro W152 hW153
        refine gather_nil ?_
        refine opg_none rfl ?_
        exact op_move rfl rfl ⟨told rfl rfl rfl, (Below.refl _ _)⟩
      · intro W152 hW153
        rintro _ rfl
        refine gather_nil ?_
        refine opg_none rfl ?_
        have hB157 : Below W24.heap.size W24 W152 := (below_step (below_step (below_step (below_step (below_step (below_step (below_step (below_step hB49 hE51) hE53) hE56) hE59) hE62) hE65) hE150) hW153)
        refine op_call ent40 rfl (value_spec (hp23.ext (flat_lifts _) hB157) (asc_chosen hvb _) (by omega) (by omega)) rfl ?_
        rintro _ W158 ⟨rfl, hE159⟩
        exact ⟨told rfl rfl rfl, hE159⟩
      · intro W152 hW153
        rintro _ rfl
        rintro _ rfl
        refine gather_nil ?_
        refine opg_none rfl ?_
        exact op_gtr rfl rfl rfl ⟨told rfl rfl rfl, (Below.refl _ _)⟩
      intro W160 hW161
      rintro _ rfl
      refine gather_nil ?_
      refine (then_norm ?_)
      refine wc_cond (b := decide (valueOf (chosenL b keepCalls) 11 < valueOf (chosenL a keepCalls) 11)) rfl (fun hc162 => ?_) (fun hc162 => ?_)
      · have hc162r := hc162
        have hc162 := of_decide_eq_true hc162
        refine wc_seq ?_
        refine wc_region ?_
        refine wl_op rfl (op_assign rfl rfl ?_)
        refine wl_op rfl (op_assign rfl rfl ?_)
        refine wl_op rfl (op_assign rfl rfl ?_)
        refine (wl_done (then_norm ?_))
        refine wc_ret ?_
        refine (then_ret ?_)
        have hB163 : Below w.heap.size w W160 := (below_step (below_step (below_step (below_step (below_step (below_step (below_step (below_step (below_step (below_step (below_step (below_step (below_step (below_step hB19 hE25) hW35) hE40) hE43) hE45) hE48) hE51) hE53) hE56) hE59) hE62) hE65) hE150) hW161)
        have hag := agree_route hva hvb hc162
        refine ⟨[_, _, _], ⟨rfl, rfl, rfl, trivial⟩, ⟨none, 0, 0, ?_, (by rw [hag]; exact rd_nil _ _ _), hB163⟩⟩
        rw [hag]
        rfl
      · have hc162r := hc162
        have hc162 := of_decide_eq_false hc162
        refine wc_skip ?_
        refine (then_norm ?_)
        refine wc_join (fun l' w' => Sub [(4, .slice none 0 0), (5, .int .i64 0), (6, .int .i64 0), (8, .int .i64 (chosenE a)), (9, .slice A120 n121 c122), (11, .slice (some ⟨b67, 0, none⟩) 6 6)] l' ∧ Below W64.heap.size W64 w' ∧ w'.heap[b67]? = some (.cells #[.int .i64 8, .int .i64 (if (fun x => x) (valueOf (chosenL a keepCalls) 8) < (fun x => x) (valueOf (chosenL b keepCalls) 8) then (valueOf (chosenL b keepCalls) 8) else (valueOf (chosenL a keepCalls) 8)), .int .i64 9, .int .i64 (if strengthI (valueOf (chosenL a keepCalls) 9) < strengthI (valueOf (chosenL b keepCalls) 9) then (valueOf (chosenL b keepCalls) 9) else (valueOf (chosenL a keepCalls) 9)), .int .i64 10, .int .i64 (limitOf (agC a) (agC b)), .int .i64 11, .int .i64 (valueOf (chosenL a keepCalls) 11), .int .i64 12, .int .i64 (prioOf (agC a) (agC b)), .int .i64 13, .int .i64 (valueOf (chosenL a keepCalls) 13)] 46 (0, 0))) ?_ ?_
        · refine wc_seq ?_
          refine wc_region ?_
          refine wl_op rfl (op_move rfl rfl ?_)
          have hB165 : Below W24.heap.size W24 W160 := (below_step (below_step (below_step (below_step (below_step (below_step (below_step (below_step hB49 hE51) hE53) hE56) hE59) hE62) hE65) hE150) hW161)
          refine wl_op rfl (op_call ent45 rfl (ContainsFunc_spec (hp23.ext (flat_lifts _) hB165) ent46 (fun W a b hm hW => Agree2_spec) (keep := fun p => decide (p.kind = 12))) rfl ?_)
          rintro _ W166 ⟨rfl, hE167⟩
          refine (wl_done (then_norm ?_))
          refine wc_cond (b := (chosenL b keepCalls).any (fun p => decide (p.kind = 12))) rfl (fun hc168 => ?_) (fun hc168 => ?_)
          · refine wc_draw_tail 8 mixed [(4, .slice none 0 0), (5, .int .i64 0), (6, .int .i64 0), (8, .int .i64 (chosenE a)), (9, .slice A120 n121 c122), (11, .slice (some ⟨b67, 0, none⟩) 6 6)] ⟨rfl, rfl, rfl, rfl, rfl, rfl, trivial⟩ [fun v _ => v = .slice (some ⟨b67, 0, none⟩) 6 6, fun v _ => v = .slice (some ⟨b67, 0, none⟩) 6 6, fun v _ => v = .pointer (some ⟨b67, 8, none⟩), fun v _ => v = .pointer (some ⟨b67, 8 + 1, none⟩), fun v _ => v = .int .i64 (valueOf (chosenL a keepCalls) 12), fun v _ => v = .slice A120 n121 c122, fun v _ => v = .int .i64 (valueOf (chosenL b keepCalls) 12), fun v _ => v = .int .i64 (if valueOf (chosenL b keepCalls) 12 < valueOf (chosenL a keepCalls) 12 then valueOf (chosenL b keepCalls) 12 else valueOf (chosenL a keepCalls) 12)] [[], [], [1], [2], [3], [], [5], [4, 6]] [0, 7] rfl rfl rfl rfl rfl rfl ⟨fun _ _ _ _ h => h, fun _ _ _ _ h => h, fun _ _ _ _ h => h, fun _ _ _ _ h => h, fun _ _ _ _ h => h, fun _ _ _ _ h => h, fun _ _ _ _ h => h, fun _ _ _ _ h => h, trivial⟩ ⟨?_, ?_, ?_, ?_, ?_, ?_, ?_, ?_, trivial⟩ ?_
            · intro W169 hW170
              refine gather_nil ?_
              refine opg_none rfl ?_
              exact op_move rfl rfl ⟨told rfl rfl rfl, (Below.refl _ _)⟩
            · intro W169 hW170
              refine gather_nil ?_
              refine opg_none rfl ?_
              exact op_move rfl rfl ⟨told rfl rfl rfl, (Below.refl _ _)⟩
            · intro W169 hW170
              rintro _ rfl
              refine gather_nil ?_
              refine opg_none rfl ?_
              exact op_indexAddr (b := b67) (o := 0) (j := 4) rfl rfl und22 sz46 rfl rfl (by omega) rfl ⟨told rfl rfl rfl, (Below.refl _ _)⟩
            · intro W169 hW170
              rintro _ rfl
              refine gather_nil ?_
              refine opg_none rfl ?_
              exact op_fieldAddr rfl fa46_1 rfl ⟨told rfl rfl rfl, (Below.refl _ _)⟩
            · intro W169 hW170
              rintro _ rfl
              refine gather_nil ?_
              refine opg_none rfl ?_
              have hb173 : W169.heap[b67]? = some (.cells #[.int .i64 8, .int .i64 (if (fun x => x) (valueOf (chosenL a keepCalls) 8) < (fun x => x) (valueOf (chosenL b keepCalls) 8) then (valueOf (chosenL b keepCalls) 8) else (valueOf (chosenL a keepCalls) 8)), .int .i64 9, .int .i64 (if strengthI (valueOf (chosenL a keepCalls) 9) < strengthI (valueOf (chosenL b keepCalls) 9) then (valueOf (chosenL b keepCalls) 9) else (valueOf (chosenL a keepCalls) 9)), .int .i64 10, .int .i64 (limitOf (agC a) (agC b)), .int .i64 11, .int .i64 (valueOf (chosenL a keepCalls) 11), .int .i64 12, .int .i64 (valueOf (chosenL a keepCalls) 12), .int .i64 13, .int .i64 (valueOf (chosenL a keepCalls) 13)] 46 (0, 0)) := (blk_ext (blk_ext (blk_ext hb151 hW161) hE167) hW170)
              exact op_load1 (v := .int .i64 (valueOf (chosenL a keepCalls) 12)) rfl agg3 (cell_blk hb173 rfl) rfl ⟨told rfl rfl rfl, (Below.refl _ _)⟩
            · intro W169 hW170
              refine gather_nil ?_
              refine opg_none rfl ?_
              exact op_move rfl rfl ⟨told rfl rfl rfl, (Below.refl _ _)⟩
            · intro W169 hW170
              rintro _ rfl
              refine gather_nil ?_
              refine opg_none rfl ?_
              have hB174 : Below W24.heap.size W24 W169 := (below_step (below_step hB165 hE167) hW170)
              refine op_call ent40 rfl (value_spec (hp23.ext (flat_lifts _) hB174) (asc_chosen hvb _) (by omega) (by omega)) rfl ?_
              rintro _ W175 ⟨rfl, hE176⟩
              exact ⟨told rfl rfl rfl, hE176⟩
            · intro W169 hW170
              rintro _ rfl
              rintro _ rfl
              refine gather_nil ?_
              refine opg_none rfl ?_
              exact op_min rfl rfl rfl rfl ⟨told rfl rfl rfl, (Below.refl _ _)⟩
            intro W177 hW178
            rintro _ rfl
            rintro _ rfl
            refine gather_nil ?_
            refine wl_op rfl (op_indexAddr (b := b67) (o := 0) (j := 4) rfl rfl und22 sz46 rfl rfl (by omega) rfl ?_)
            refine wl_op rfl (op_fieldAddr rfl fa46_1 rfl ?_)
            have hb179 : W177.heap[b67]? = some (.cells #[.int .i64 8, .int .i64 (if (fun x => x) (valueOf (chosenL a keepCalls) 8) < (fun x => x) (valueOf (chosenL b keepCalls) 8) then (valueOf (chosenL b keepCalls) 8) else (valueOf (chosenL a keepCalls) 8)), .int .i64 9, .int .i64 (if strengthI (valueOf (chosenL a keepCalls) 9) < strengthI (valueOf (chosenL b keepCalls) 9) then (valueOf (chosenL b keepCalls) 9) else (valueOf (chosenL a keepCalls) 9)), .int .i64 10, .int .i64 (limitOf (agC a) (agC b)), .int .i64 11, .int .i64 (valueOf (chosenL a keepCalls) 11), .int .i64 12, .int .i64 (valueOf (chosenL a keepCalls) 12), .int .i64 13, .int .i64 (valueOf (chosenL a keepCalls) 13)] 46 (0, 0)) := (blk_ext (blk_ext (blk_ext hb151 hW161) hE167) hW178)
            refine wl_op rfl (op_store rfl rfl sz3 hb179 rfl rfl ?_)
            intro W180 hP181 hb182
            have hb182 : W180.heap[b67]? = some (.cells #[.int .i64 8, .int .i64 (if (fun x => x) (valueOf (chosenL a keepCalls) 8) < (fun x => x) (valueOf (chosenL b keepCalls) 8) then (valueOf (chosenL b keepCalls) 8) else (valueOf (chosenL a keepCalls) 8)), .int .i64 9, .int .i64 (if strengthI (valueOf (chosenL a keepCalls) 9) < strengthI (valueOf (chosenL b keepCalls) 9) then (valueOf (chosenL b keepCalls) 9) else (valueOf (chosenL a keepCalls) 9)), .int .i64 10, .int .i64 (limitOf (agC a) (agC b)), .int .i64 11, .int .i64 (valueOf (chosenL a keepCalls) 11), .int .i64 12, .int .i64 (if valueOf (chosenL b keepCalls) 12 < valueOf (chosenL a keepCalls) 12 then valueOf (chosenL b keepCalls) 12 else valueOf (chosenL a keepCalls) 12), .int .i64 13, .int .i64 (valueOf (chosenL a keepCalls) 13)] 46 (0, 0)) := hb182
            refine (wl_done (then_norm ?_))
            have hl : prioOf (agC a) (agC b) = (if valueOf (agC b) 12 < valueOf (agC a) 12 then valueOf (agC b) 12 else valueOf (agC a) 12) := by unfold prioOf; rw [if_pos hc168]
            have hB183 : Below W64.heap.size W64 W180 := (hP181.below (below_step (below_step (below_step (below_step (Below.refl _ _) hE150) hW161) hE167) hW178) (le_new (Below.refl _ _) hN68))
            exact ⟨⟨rfl, rfl, rfl, rfl, rfl, rfl, trivial⟩, hB183, (by rw [hl]; exact hb182)⟩
          · refine wc_skip ?_
            refine (then_norm ?_)
            have hl : prioOf (agC a) (agC b) = valueOf (agC a) 12 := by unfold prioOf; rw [if_neg (fun h => by rw [show hasPrio (agC b) = false from hc168] at h; cases h)]
            have hb184 : W166.heap[b67]? = some (.cells #[.int .i64 8, .int .i64 (if (fun x => x) (valueOf (chosenL a keepCalls) 8) < (fun x => x) (valueOf (chosenL b keepCalls) 8) then (valueOf (chosenL b keepCalls) 8) else (valueOf (chosenL a keepCalls) 8)), .int .i64 9, .int .i64 (if strengthI (valueOf (chosenL a keepCalls) 9) < strengthI (valueOf (chosenL b keepCalls) 9) then (valueOf (chosenL b keepCalls) 9) else (valueOf (chosenL a keepCalls) 9)), .int .i64 10, .int .i64 (limitOf (agC a) (agC b)), .int .i64 11, .int .i64 (valueOf (chosenL a keepCalls) 11), .int .i64 12, .int .i64 (valueOf (chosenL a keepCalls) 12), .int .i64 13, .int .i64 (valueOf (chosenL a keepCalls) 13)] 46 (0, 0)) := (blk_ext (blk_ext hb151 hW161) hE167)
            have hB185 : Below W64.heap.size W64 W166 := (below_step (below_step (below_step (Below.refl _ _) hE150) hW161) hE167)
            exact ⟨⟨rfl, rfl, rfl, rfl, rfl, rfl, trivial⟩, hB185, (by rw [hl]; exact hb184)⟩
        · rintro l' W164 ⟨hsub, hE186, hb187⟩
          refine WC.sub _ hsub ?_
          refine wc_join (fun l' w' => Sub [(4, .slice none 0 0), (5, .int .i64 0), (6, .int .i64 0), (8, .int .i64 (chosenE a)), (11, .slice (some ⟨b67, 0, none⟩) 6 6)] l' ∧ Below W64.heap.size W64 w' ∧ w'.heap[b67]? = some (.cells #[.int .i64 8, .int .i64 (if (fun x => x) (valueOf (chosenL a keepCalls) 8) < (fun x => x) (valueOf (chosenL b keepCalls) 8) then (valueOf (chosenL b keepCalls) 8) else (valueOf (chosenL a keepCalls) 8)), .int .i64 9, .int .i64 (if strengthI (valueOf (chosenL a keepCalls) 9) < strengthI (valueOf (chosenL b keepCalls) 9) then (valueOf (chosenL b keepCalls) 9) else (valueOf (chosenL a keepCalls) 9)), .int .i64 10, .int .i64 (limitOf (agC a) (agC b)), .int .i64 11, .int .i64 (valueOf (chosenL a keepCalls) 11), .int .i64 12, .int .i64 (prioOf (agC a) (agC b)), .int .i64 13, .int .i64 (orderOf (agC a) (agC b))] 46 (0, 0))) ?_ ?_
          · refine wc_seq ?_
            refine wc_region ?_
            refine wl_op rfl (op_move rfl rfl ?_)
            refine wl_op rfl (op_indexAddr (b := b67) (o := 0) (j := 5) rfl rfl und22 sz46 rfl rfl (by omega) rfl ?_)
            refine wl_op rfl (op_fieldAddr rfl fa46_1 rfl ?_)
            refine wl_op rfl (op_load1 (v := .int .i64 (valueOf (chosenL a keepCalls) 13)) rfl agg3 (cell_blk hb187 rfl) rfl ?_)
            refine wl_op rfl (op_eql rfl rfl rfl ?_)
            refine (wl_done (then_norm ?_))
            refine wc_cond (b := decide (valueOf (chosenL a keepCalls) 13 = 1)) rfl (fun hc189 => ?_) (fun hc189 => ?_)
            · have hc189r := hc189
              have hc189 := of_decide_eq_true hc189
              refine wc_region ?_
              refine wl_op rfl (op_move rfl rfl ?_)
              refine wl_op rfl (op_move rfl rfl ?_)
              have hB190 : Below W24.heap.size W24 W164 := (below_step (below_step (below_step (below_step (below_step (below_step (below_step hB49 hE51) hE53) hE56) hE59) hE62) hE65) hE186)
              refine wl_op rfl (op_call ent40 rfl (value_spec (hp23.ext (flat_lifts _) hB190) (asc_chosen hvb _) (by omega) (by omega)) rfl ?_)
              rintro _ W191 ⟨rfl, hE192⟩
              refine wl_op rfl (op_indexAddr (b := b67) (o := 0) (j := 5) rfl rfl und22 sz46 rfl rfl (by omega) rfl ?_)
              refine wl_op rfl (op_fieldAddr rfl fa46_1 rfl ?_)
              have hb193 : W191.heap[b67]? = some (.cells #[.int .i64 8, .int .i64 (if (fun x => x) (valueOf (chosenL a keepCalls) 8) < (fun x => x) (valueOf (chosenL b keepCalls) 8) then (valueOf (chosenL b keepCalls) 8) else (valueOf (chosenL a keepCalls) 8)), .int .i64 9, .int .i64 (if strengthI (valueOf (chosenL a keepCalls) 9) < strengthI (valueOf (chosenL b keepCalls) 9) then (valueOf (chosenL b keepCalls) 9) else (valueOf (chosenL a keepCalls) 9)), .int .i64 10, .int .i64 (limitOf (agC a) (agC b)), .int .i64 11, .int .i64 (valueOf (chosenL a keepCalls) 11), .int .i64 12, .int .i64 (prioOf (agC a) (agC b)), .int .i64 13, .int .i64 (valueOf (chosenL a keepCalls) 13)] 46 (0, 0)) := (blk_ext hb187 hE192)
              refine wl_op rfl (op_store rfl rfl sz3 hb193 rfl rfl ?_)
              intro W194 hP195 hb196
              have hb196 : W194.heap[b67]? = some (.cells #[.int .i64 8, .int .i64 (if (fun x => x) (valueOf (chosenL a keepCalls) 8) < (fun x => x) (valueOf (chosenL b keepCalls) 8) then (valueOf (chosenL b keepCalls) 8) else (valueOf (chosenL a keepCalls) 8)), .int .i64 9, .int .i64 (if strengthI (valueOf (chosenL a keepCalls) 9) < strengthI (valueOf (chosenL b keepCalls) 9) then (valueOf (chosenL b keepCalls) 9) else (valueOf (chosenL a keepCalls) 9)), .int .i64 10, .int .i64 (limitOf (agC a) (agC b)), .int .i64 11, .int .i64 (valueOf (chosenL a keepCalls) 11), .int .i64 12, .int .i64 (prioOf (agC a) (agC b)), .int .i64 13, .int .i64 (valueOf (chosenL b keepCalls) 13)] 46 (0, 0)) := hb196
              refine (wl_done (then_norm ?_))
              have hl : orderOf (agC a) (agC b) = valueOf (agC b) 13 := by unfold orderOf; rw [if_pos hc189]
              have hB197 : Below W64.heap.size W64 W194 := (hP195.below (below_step (below_step (Below.refl _ _) hE186) hE192) (le_new (Below.refl _ _) hN68))
              exact ⟨⟨rfl, rfl, rfl, rfl, rfl, trivial⟩, hB197, (by rw [hl]; exact hb196)⟩
            · have hc189r := hc189
              have hc189 := of_decide_eq_false hc189
              refine wc_skip ?_
              refine (then_norm ?_)
              have hl : orderOf (agC a) (agC b) = valueOf (agC a) 13 := by unfold orderOf; rw [if_neg hc189]
              have hB198 : Below W64.heap.size W64 W164 := (below_step (Below.refl _ _) hE186)
              exact ⟨⟨rfl, rfl, rfl, rfl, rfl, trivial⟩, hB198, (by rw [hl]; exact hb187)⟩
          · rintro l' W188 ⟨hsub, hE199, hb200⟩
            refine WC.sub _ hsub ?_
            refine wc_seq ?_
            refine wc_seq ?_
            refine wc_region ?_
            refine wl_op rfl (op_move rfl rfl ?_)
            refine wl_op rfl (op_call ent8 rfl (Clashes_spec (rd_of_blk (enc := encP) [(⟨8, if (fun x => x) (valueOf (chosenL a keepCalls) 8) < (fun x => x) (valueOf (chosenL b keepCalls) 8) then (valueOf (chosenL b keepCalls) 8) else (valueOf (chosenL a keepCalls) 8)⟩ : Pol), (⟨9, if strengthI (valueOf (chosenL a keepCalls) 9) < strengthI (valueOf (chosenL b keepCalls) 9) then (valueOf (chosenL b keepCalls) 9) else (valueOf (chosenL a keepCalls) 9)⟩ : Pol), (⟨10, limitOf (agC a) (agC b)⟩ : Pol), (⟨11, valueOf (chosenL a keepCalls) 11⟩ : Pol), (⟨12, prioOf (agC a) (agC b)⟩ : Pol), (⟨13, orderOf (agC a) (agC b)⟩ : Pol)] hb200 (fun _ => rfl) rfl rfl rfl)) rfl ?_)
            rintro _ W205 ⟨A1201, n1202, c1203, rfl, hp204, hE206⟩
            refine wl_op rfl (op_move rfl rfl ?_)
            refine wl_op rfl (op_extract (v := .slice A1201 n1202 c1203) rfl rfl rfl ?_)
            refine wl_op rfl (op_extract (v := .int .i64 (chosenE [(⟨8, if (fun x => x) (valueOf (chosenL a keepCalls) 8) < (fun x => x) (valueOf (chosenL b keepCalls) 8) then (valueOf (chosenL b keepCalls) 8) else (valueOf (chosenL a keepCalls) 8)⟩ : Pol), (⟨9, if strengthI (valueOf (chosenL a keepCalls) 9) < strengthI (valueOf (chosenL b keepCalls) 9) then (valueOf (chosenL b keepCalls) 9) else (valueOf (chosenL a keepCalls) 9)⟩ : Pol), (⟨10, limitOf (agC a) (agC b)⟩ : Pol), (⟨11, valueOf (chosenL a keepCalls) 11⟩ : Pol), (⟨12, prioOf (agC a) (agC b)⟩ : Pol), (⟨13, orderOf (agC a) (agC b)⟩ : Pol)])) rfl rfl rfl ?_)
            refine wl_op rfl (op_assign rfl rfl ?_)
            refine wl_op rfl (op_assign rfl rfl ?_)
            refine (wl_done (then_norm ?_))
            refine WC.sub [(4, .slice none 0 0), (5, .int .i64 0), (6, .int .i64 0), (8, .int .i64 (chosenE a)), (11, .slice (some ⟨b67, 0, none⟩) 6 6), (13, .slice A1201 n1202 c1203)] ⟨rfl, rfl, rfl, rfl, rfl, rfl, trivial⟩ ?_
            refine wc_seq ?_
            refine wc_region ?_
            refine wl_op rfl (op_move rfl rfl ?_)
            refine wl_op rfl (op_len_slice rfl rfl und25 rfl rfl ?_)
            refine wl_op rfl (op_gtr rfl rfl rfl ?_)
            refine (wl_done (then_norm ?_))
            refine wc_cond (b := decide (0 < ((n1202 : Nat) : Int))) rfl (fun hc207 => ?_) (fun hc207 => ?_)
            · have hc207r := hc207
              have hc207 := of_decide_eq_true hc207
              refine wc_seq ?_
              obtain ⟨bs210, os211, hA212, hc213⟩ := hp204.flat
              have hln214 := hp204.len
              have hbd215 := hp204.bd
              obtain ⟨x_hp204_0, hx_hp204_0⟩ : ∃ x, (clashL [(⟨8, if (fun x => x) (valueOf (chosenL a keepCalls) 8) < (fun x => x) (valueOf (chosenL b keepCalls) 8) then (valueOf (chosenL b keepCalls) 8) else (valueOf (chosenL a keepCalls) 8)⟩ : Pol), (⟨9, if strengthI (valueOf (chosenL a keepCalls) 9) < strengthI (valueOf (chosenL b keepCalls) 9) then (valueOf (chosenL b keepCalls) 9) else (valueOf (chosenL a keepCalls) 9)⟩ : Pol), (⟨10, limitOf (agC a) (agC b)⟩ : Pol), (⟨11, valueOf (chosenL a keepCalls) 11⟩ : Pol), (⟨12, prioOf (agC a) (agC b)⟩ : Pol), (⟨13, orderOf (agC a) (agC b)⟩ : Pol)])[0]? = some x := ⟨_, List.getElem?_eq_getElem (by have := hp204.len; omega)⟩
              refine wc_draw mixed [(8, .int .i64 (chosenE a)), (11, .slice (some ⟨b67, 0, none⟩) 6 6), (13, .slice A1201 n1202 c1203)] ⟨rfl, rfl, rfl, trivial⟩ [fun v _ => v = .slice A1201 n1202 c1203, fun v _ => v = .pointer (some ⟨bs210, os211 + 0 * 2, none⟩), fun v _ => v = .pointer (some ⟨bs210, os211 + 0 * 2 + 0 * 1, none⟩), fun v _ => v = .int .i64 x_hp204_0.1, fun v _ => v = .slice none 0 0, fun v _ => v = .int .i64 x_hp204_0.1, fun v _ => v = .int .i64 9] [[], [0], [1], [2], [], [3], []] [4, 5, 6] rfl rfl rfl ⟨fun _ _ _ _ h => h, fun _ _ _ _ h => h, fun _ _ _ _ h => h, fun _ _ _ _ h => h, fun _ _ _ _ h => h, fun _ _ _ _ h => h, fun _ _ _ _ h => h, trivial⟩ ⟨?_, ?_, ?_, ?_, ?_, ?_, ?_, trivial⟩ ?_
              · intro W208 hW209
                refine gather_nil ?_
                refine opg_none rfl ?_
                exact op_move rfl rfl ⟨told rfl rfl rfl, (Below.refl _ _)⟩
              · intro W208 hW209
                rintro _ rfl
                refine gather_nil ?_
                refine opg_none rfl ?_
                exact op_indexAddr (j := 0) rfl rfl und25 sz29 (hA212 (by omega)) rfl (by omega) rfl ⟨told rfl rfl rfl, (Below.refl _ _)⟩
              · intro W208 hW209
                rintro _ rfl
                refine gather_nil ?_
                refine opg_none rfl ?_
                exact op_indexArr (j := 0) rfl rfl und29 sz3 rfl (by omega) rfl ⟨told rfl rfl rfl, (Below.refl _ _)⟩
              · intro W208 hW209
                rintro _ rfl
                refine gather_nil ?_
                refine opg_none rfl ?_
                have hB217 : Below W205.heap.size W205 W208 := (below_step (Below.refl _ _) hW209)
                exact op_load1 (v := .int .i64 x_hp204_0.1) rfl agg3 (((hc213 0 x_hp204_0 hx_hp204_0).ext hB217).at (i := 0) rfl) rfl ⟨told rfl rfl rfl, (Below.refl _ _)⟩
              · intro W208 hW209
                refine gather_nil ?_
                refine opg_none rfl ?_
                exact op_assign rfl rfl ⟨told rfl rfl rfl, (Below.refl _ _)⟩
              · intro W208 hW209
                rintro _ rfl
                refine gather_nil ?_
                refine opg_none rfl ?_
                exact op_assign rfl rfl ⟨told rfl rfl rfl, (Below.refl _ _)⟩
              · intro W208 hW209
                refine gather_nil ?_
                refine opg_none rfl ?_
                exact op_assign rfl rfl ⟨told rfl rfl rfl, (Below.refl _ _)⟩
              intro W218 hW219
              rintro _ rfl
              rintro _ rfl
              rintro _ rfl
              refine gather_nil ?_
              refine (then_norm ?_)
              refine wc_ret ?_
              refine (then_ret ?_)
              have hB220 : Below w.heap.size w W218 := (below_step (below_step (below_step (below_step (below_step (below_step (below_step (below_step (below_step (below_step (below_step (below_step (below_step (below_step (below_step hB19 hE25) hW35) hE40) hE43) hE45) hE48) hE51) hE53) hE56) hE59) hE62) hE65) hE199) hE206) hW219)
              have hag := agree_clash hva hvb hc162 hx_hp204_0
              refine ⟨[_, _, _], ⟨rfl, rfl, rfl, trivial⟩, ⟨none, 0, 0, ?_, (by rw [hag]; exact rd_nil _ _ _), hB220⟩⟩
              rw [hag]
              rfl
            · have hc207r := hc207
              have hc207 := of_decide_eq_false hc207
              have hcl0 : (clashL (agreed (agC a) (agC b))).length = 0 := (show (clashL (agreed (agC a) (agC b))).length = _ from hp204.len).trans (by omega)
              refine wc_skip ?_
              refine (then_norm ?_)
              refine wc_seq ?_
              refine wc_region ?_
              refine wl_op rfl (op_move rfl rfl ?_)
              have hb221 : W205.heap[b67]? = some (.cells #[.int .i64 8, .int .i64 (if (fun x => x) (valueOf (chosenL a keepCalls) 8) < (fun x => x) (valueOf (chosenL b keepCalls) 8) then (valueOf (chosenL b keepCalls) 8) else (valueOf (chosenL a keepCalls) 8)), .int .i64 9, .int .i64 (if strengthI (valueOf (chosenL a keepCalls) 9) < strengthI (valueOf (chosenL b keepCalls) 9) then (valueOf (chosenL b keepCalls) 9) else (valueOf (chosenL a keepCalls) 9)), .int .i64 10, .int .i64 (limitOf (agC a) (agC b)), .int .i64 11, .int .i64 (valueOf (chosenL a keepCalls) 11), .int .i64 12, .int .i64 (prioOf (agC a) (agC b)), .int .i64 13, .int .i64 (orderOf (agC a) (agC b))] 46 (0, 0)) := (blk_ext hb200 hE206)
              refine wl_op rfl (op_call ent21 rfl (Plain_spec (rd_of_blk (enc := encP) [(⟨8, if (fun x => x) (valueOf (chosenL a keepCalls) 8) < (fun x => x) (valueOf (chosenL b keepCalls) 8) then (valueOf (chosenL b keepCalls) 8) else (valueOf (chosenL a keepCalls) 8)⟩ : Pol), (⟨9, if strengthI (valueOf (chosenL a keepCalls) 9) < strengthI (valueOf (chosenL b keepCalls) 9) then (valueOf (chosenL b keepCalls) 9) else (valueOf (chosenL a keepCalls) 9)⟩ : Pol), (⟨10, limitOf (agC a) (agC b)⟩ : Pol), (⟨11, valueOf (chosenL a keepCalls) 11⟩ : Pol), (⟨12, prioOf (agC a) (agC b)⟩ : Pol), (⟨13, orderOf (agC a) (agC b)⟩ : Pol)] hb221 (fun _ => rfl) rfl rfl rfl) (by omega)) rfl ?_)
              rintro _ W226 ⟨A1222, n1223, c1224, rfl, hp225, hE227⟩
              refine wl_op rfl (op_move rfl rfl ?_)
              refine wl_op rfl (op_extract (v := .slice A1222 n1223 c1224) rfl rfl rfl ?_)
              refine wl_op rfl (op_extract (v := .int .i64 (chosenE [(⟨8, if (fun x => x) (valueOf (chosenL a keepCalls) 8) < (fun x => x) (valueOf (chosenL b keepCalls) 8) then (valueOf (chosenL b keepCalls) 8) else (valueOf (chosenL a keepCalls) 8)⟩ : Pol), (⟨9, if strengthI (valueOf (chosenL a keepCalls) 9) < strengthI (valueOf (chosenL b keepCalls) 9) then (valueOf (chosenL b keepCalls) 9) else (valueOf (chosenL a keepCalls) 9)⟩ : Pol), (⟨10, limitOf (agC a) (agC b)⟩ : Pol), (⟨11, valueOf (chosenL a keepCalls) 11⟩ : Pol), (⟨12, prioOf (agC a) (agC b)⟩ : Pol), (⟨13, orderOf (agC a) (agC b)⟩ : Pol)])) rfl rfl rfl ?_)
              refine wl_op rfl (op_assign rfl rfl ?_)
              refine wl_op rfl (op_assign rfl rfl ?_)
              refine (wl_done (then_norm ?_))
              refine WC.sub [(4, .slice none 0 0), (5, .int .i64 0), (6, .int .i64 0), (8, .int .i64 (chosenE [(⟨8, if (fun x => x) (valueOf (chosenL a keepCalls) 8) < (fun x => x) (valueOf (chosenL b keepCalls) 8) then (valueOf (chosenL b keepCalls) 8) else (valueOf (chosenL a keepCalls) 8)⟩ : Pol), (⟨9, if strengthI (valueOf (chosenL a keepCalls) 9) < strengthI (valueOf (chosenL b keepCalls) 9) then (valueOf (chosenL b keepCalls) 9) else (valueOf (chosenL a keepCalls) 9)⟩ : Pol), (⟨10, limitOf (agC a) (agC b)⟩ : Pol), (⟨11, valueOf (chosenL a keepCalls) 11⟩ : Pol), (⟨12, prioOf (agC a) (agC b)⟩ : Pol), (⟨13, orderOf (agC a) (agC b)⟩ : Pol)])), (15, .slice A1222 n1223 c1224)] ⟨rfl, rfl, rfl, rfl, rfl, trivial⟩ ?_
              refine wc_seq ?_
              refine wc_region ?_
              refine wl_op rfl (op_move rfl rfl ?_)
              refine wl_op rfl (op_move rfl rfl ?_)
              refine wl_op rfl (op_assign rfl rfl ?_)
              refine wl_op rfl (op_assign rfl rfl ?_)
              refine wl_op rfl (op_assign rfl rfl ?_)
              refine (wl_done (then_norm ?_))
              refine wc_ret ?_
              have hB228 : Below w.heap.size w W226 := (below_step (below_step (below_step (below_step (below_step (below_step (below_step (below_step (below_step (below_step (below_step (below_step (below_step (below_step (below_step hB19 hE25) hW35) hE40) hE43) hE45) hE48) hE51) hE53) hE56) hE59) hE62) hE65) hE199) hE206) hE227)
              have hag := agree_fine hva hvb hc162 hcl0
              refine ⟨[_, _, _], ⟨rfl, rfl, rfl, trivial⟩, ⟨A1222, n1223, c1224, ?_, (by rw [hag]; exact hp225), hB228⟩⟩
              rw [hag]
              rfl

end Go.Eng
