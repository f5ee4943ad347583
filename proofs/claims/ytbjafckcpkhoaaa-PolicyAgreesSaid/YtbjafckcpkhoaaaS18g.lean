/- Lemmas for a law of the seat: what functions of the program do, each stated as a contract of its own (module S18g). -/
import Derived.Test.YtbjafckcpkhoaaaS18f
import Derived.Test.YtbjafckcpkhoaaaChecked
set_option linter.unusedVariables false
set_option maxRecDepth 100000
namespace Go.Eng
open Go.RowKit Go.Shelf Go.Proofs Pol

theorem ent36 : Enters Try.prog 36 := enters_of Try.func36 (by kernel_rfl) rfl
theorem ent42 : Enters Try.prog 42 := enters_of Try.func42 (by kernel_rfl) rfl
theorem ent43 : Enters Try.prog 43 := enters_of Try.func43 (by kernel_rfl) rfl
theorem ent44 : Enters Try.prog 44 := enters_of Try.func44 (by kernel_rfl) rfl
theorem sz3 : Sz Try.prog 3 1 := fun w => by kernel_rfl
theorem ent45 : Enters Try.prog 45 := enters_of Try.func45 (by kernel_rfl) rfl
theorem ent46 : Enters Try.prog 46 := enters_of Try.func46 (by kernel_rfl) rfl
theorem ent8 : Enters Try.prog 8 := enters_of Try.func8 (by kernel_rfl) rfl
theorem und25 : Und Try.prog 25 (.slice 29) := by unfold Und; kernel_rfl
theorem sz29 : Sz Try.prog 29 2 := fun w => by kernel_rfl
theorem und29 : Und Try.prog 29 (.array 2 3) := by unfold Und; kernel_rfl
theorem ent21 : Enters Try.prog 21 := enters_of Try.func21 (by kernel_rfl) rfl

abbrev agC (a : List Pol) : List Pol := chosenL a keepCalls
def rebindOf (c s : List Pol) : Int := if valueOf c 8 < valueOf s 8 then valueOf s 8 else valueOf c 8
def certOf (c s : List Pol) : Int := if strengthI (valueOf c 9) < strengthI (valueOf s 9) then valueOf s 9 else valueOf c 9
def limitOf (c s : List Pol) : Int := if 0 < valueOf s 10 ∧ (valueOf c 10 = 0 ∨ valueOf s 10 < valueOf c 10) then valueOf s 10 else valueOf c 10
abbrev hasPrio (s : List Pol) : Bool := s.any (fun p => decide (p.kind = 12))
def prioOf (c s : List Pol) : Int := if hasPrio s = true then (if valueOf s 12 < valueOf c 12 then valueOf s 12 else valueOf c 12) else valueOf c 12
def orderOf (c s : List Pol) : Int := if valueOf c 13 = 1 then valueOf s 13 else valueOf c 13
def agreed (c s : List Pol) : List Pol := [⟨8, rebindOf c s⟩, ⟨9, certOf c s⟩, ⟨10, limitOf c s⟩, ⟨11, valueOf c 11⟩, ⟨12, prioOf c s⟩, ⟨13, orderOf c s⟩]
def agree (a b : List Pol) : List Pol × Int × Int :=
  if validSet a = true ∧ validSet b = true then
    if valueOf (agC b) 11 < valueOf (agC a) 11 then ([], 11, 9)
    else match clashL (agreed (agC a) (agC b)) with
      | q :: _ => ([], q.1, 9)
      | [] => (chosenL (agreed (agC a) (agC b)) keepPlain, 0, chosenE (agreed (agC a) (agC b)))
  else ([], 0, 1)
theorem chosenE_0 {s : List Pol} : chosenE s = 0 ↔ validSet s = true := by
  unfold chosenE; split <;> simp_all
theorem asc_filter {s : List Pol} (h : Asc s) (f : Pol → Bool) : Asc (s.filter f) := by
  have hp : List.Pairwise (fun x y : Pol => x.kind < y.kind) s := by
    rw [List.pairwise_iff_getElem]
    intro i j hi hj hij
    exact h.up i j _ _ hij (List.getElem?_eq_getElem hi) (List.getElem?_eq_getElem hj)
  have hf := hp.filter f
  rw [List.pairwise_iff_getElem] at hf
  refine ⟨fun i x hx => ?_, fun i j x y hij hx hy => ?_⟩
  · have hm := List.mem_of_getElem? hx
    rw [List.mem_filter] at hm
    obtain ⟨j, hj, rfl⟩ := List.getElem_of_mem hm.1
    exact h.lo j _ (List.getElem?_eq_getElem hj)
  · obtain ⟨hi, rfl⟩ := List.getElem?_eq_some_iff.1 hx
    obtain ⟨hj, rfl⟩ := List.getElem?_eq_some_iff.1 hy
    exact hf i j hi hj hij
theorem asc_chosen {s : List Pol} (hv : validSet s = true) (f : Pol → Bool) : Asc (chosenL s f) := by
  unfold chosenL; rw [if_pos hv]; exact asc_filter (valid_asc hv) f
theorem valueOf_rng {s : List Pol} (h : ∀ p, p ∈ s → validB p = true) {k : Int} (h1 : 1 ≤ k) (h2 : k ≤ 13) : leastI k ≤ valueOf s k ∧ valueOf s k ≤ mostI k := by
  unfold valueOf
  cases hf : s.find? (fun p => decide (p.kind = k)) with
  | none =>
    simp only []
    refine ⟨Int.le_refl _, ?_⟩
    unfold leastI mostI
    repeat' split
    all_goals omega
  | some p =>
    have h3 := List.find?_some hf
    have h4 := h p (List.mem_of_find?_eq_some hf)
    have h5 : p.kind = k := by simpa using h3
    have h6 := valid_val h4
    rw [h5] at h6
    exact h6
theorem chosen_valid {s : List Pol} (hv : validSet s = true) (f : Pol → Bool) : ∀ p, p ∈ chosenL s f → validB p = true := by
  intro p hp
  unfold chosenL at hp
  rw [if_pos hv, List.mem_filter] at hp
  exact mem_valid hv hp.1
theorem rng9 {a b : List Pol} (ha : validSet a = true) (hb : validSet b = true) {x : Int} (h : x = valueOf (agC a) 9 ∨ x = valueOf (agC b) 9) : 0 ≤ x ∧ x ≤ 4 := by
  have h1 := valueOf_rng (chosen_valid ha keepCalls) (k := 9) (by decide) (by decide)
  have h2 := valueOf_rng (chosen_valid hb keepCalls) (k := 9) (by decide) (by decide)
  have e1 : leastI 9 = 1 := by decide
  have e2 : mostI 9 = 4 := by decide
  rw [e1, e2] at h1 h2
  unfold agC at h
  omega
theorem lim_t {a b c : Prop} [Decidable a] [Decidable b] [Decidable c] (h : (decide a && (decide b || decide c)) = true) : a ∧ (b ∨ c) := by simpa using h
theorem lim_f {a b c : Prop} [Decidable a] [Decidable b] [Decidable c] (h : (decide a && (decide b || decide c)) = false) : ¬ (a ∧ (b ∨ c)) := fun k => by
  have : (decide a && (decide b || decide c)) = true := by simpa using k
  rw [h] at this; cases this
theorem agree_route {a b : List Pol} (hva : validSet a = true) (hvb : validSet b = true) (h : valueOf (agC b) 11 < valueOf (agC a) 11) : agree a b = ([], 11, 9) := by
  rw [agree, if_pos ⟨hva, hvb⟩, if_pos h]
theorem agree_clash {a b : List Pol} (hva : validSet a = true) (hvb : validSet b = true) (h : ¬ valueOf (agC b) 11 < valueOf (agC a) 11) {q : Int × Int} (hq : (clashL (agreed (agC a) (agC b)))[0]? = some q) : agree a b = ([], q.1, 9) := by
  rw [agree, if_pos ⟨hva, hvb⟩, if_neg h]
  cases hl : clashL (agreed (agC a) (agC b)) with
  | nil => rw [hl] at hq; cases hq
  | cons p r => rw [hl] at hq; cases hq; rfl
theorem agree_fine {a b : List Pol} (hva : validSet a = true) (hvb : validSet b = true) (h : ¬ valueOf (agC b) 11 < valueOf (agC a) 11) (hq : (clashL (agreed (agC a) (agC b))).length = 0) :
    agree a b = (chosenL (agreed (agC a) (agC b)) keepPlain, 0, chosenE (agreed (agC a) (agC b))) := by
  rw [agree, if_pos ⟨hva, hvb⟩, if_neg h]
  rw [List.eq_nil_of_length_eq_zero hq]

theorem Agree_spec {w : World} {A : Option Addr} {n c : Nat} {a : List Pol} {A2 : Option Addr} {n2 c2 : Nat} {b : List Pol} (hs : RdP w A n a) (hs2 : RdP w A2 n2 b) (hn : n ≤ 1000) (hn2 : n2 ≤ 1000) : Ret Try.prog 10 #[.slice A n c, .slice A2 n2 c2] w (fun v w' => ∃ (A1 : Option Addr) (n1 c1 : Nat), v = .tuple #[.slice A1 n1 c1, .int .i64 ((agree a b).2.1), .int .i64 ((agree a b).2.2)] ∧ RdP w' A1 n1 (agree a b).1 ∧ Below w.heap.size w w') := by
  obtain ⟨bs1, os2, hA3, hc4⟩ := hs.flat
  have hln5 := hs.len
  have hbd6 := hs.bd
  have hlen_a := hs.len
  obtain ⟨bs7, os8, hA9, hc10⟩ := hs2.flat
  have hln11 := hs2.len
  have hbd12 := hs2.bd
  have hlen_b := hs2.len
  refine ret_of (args := [.slice A n c, .slice A2 n2 c2]) Try.func10 rfl Try.ntmps10 rfl (rs := [.tmp 4, .tmp 5, .tmp 6]) rfl ?_
  refine wc_seq ?_
  refine wc_region ?_
  refine wl_op rfl (op_assign rfl rfl ?_)
  refine wl_op rfl (op_assign rfl rfl ?_)
  refine wl_op rfl (op_assign rfl rfl ?_)
  refine (wl_done (then_norm ?_))
  refine wc_seq ?_
  refine wc_region ?_
  refine wl_op rfl (op_move rfl rfl ?_)
  refine wl_op rfl (op_call ent36 rfl (Calls_spec hs hn) rfl ?_)
  rintro _ W17 ⟨A113, n114, c115, rfl, hp16, hE18⟩
  refine wl_op rfl (op_move rfl rfl ?_)
  refine wl_op rfl (op_extract (v := .slice A113 n114 c115) rfl rfl rfl ?_)
  refine wl_op rfl (op_extract (v := .int .i64 (chosenE a)) rfl rfl rfl ?_)
  refine wl_op rfl (op_assign rfl rfl ?_)
  refine wl_op rfl (op_assign rfl rfl ?_)
  refine (wl_done (then_norm ?_))
  refine WC.sub [(1, .slice A2 n2 c2), (4, .slice none 0 0), (5, .int .i64 0), (6, .int .i64 0), (7, .slice A113 n114 c115), (8, .int .i64 (chosenE a))] ⟨rfl, rfl, rfl, rfl, rfl, rfl, trivial⟩ ?_
  refine wc_seq ?_
  refine wc_region ?_
  refine wl_op rfl (op_move rfl rfl ?_)
  have hB19 : Below w.heap.size w W17 := (below_step (Below.refl _ _) hE18)
  refine wl_op rfl (op_call ent36 rfl (Calls_spec (hs2.ext (flat_lifts _) hB19) hn2) rfl ?_)
  rintro _ W24 ⟨A120, n121, c122, rfl, hp23, hE25⟩
  refine wl_op rfl (op_move rfl rfl ?_)
  refine wl_op rfl (op_extract (v := .slice A120 n121 c122) rfl rfl rfl ?_)
  refine wl_op rfl (op_extract (v := .int .i64 (chosenE b)) rfl rfl rfl ?_)
  refine wl_op rfl (op_assign rfl rfl ?_)
  refine wl_op rfl (op_assign rfl rfl ?_)
  refine (wl_done (then_norm ?_))
  refine WC.sub [(4, .slice none 0 0), (5, .int .i64 0), (6, .int .i64 0), (7, .slice A113 n114 c115), (8, .int .i64 (chosenE a)), (9, .slice A120 n121 c122), (10, .int .i64 (chosenE b))] ⟨rfl, rfl, rfl, rfl, rfl, rfl, rfl, trivial⟩ ?_
  refine wc_seq ?_
  refine wc_seq ?_
  refine wc_text [(4, .slice none 0 0), (5, .int .i64 0), (6, .int .i64 0), (7, .slice A113 n114 c115), (8, .int .i64 (chosenE a)), (9, .slice A120 n121 c122), (10, .int .i64 (chosenE b))] ⟨rfl, rfl, rfl, rfl, rfl, rfl, rfl, trivial⟩ [fun v _ => v = .int .i64 (chosenE a), fun v _ => v = .bool (!decide (chosenE a = 0)), fun v _ => v = .bool (!decide (chosenE a = 0)), fun v _ => v = (bif (!(!decide (chosenE a = 0))) then (.int .i64 (chosenE b)) else undef), fun v _ => v = (bif (!(!decide (chosenE a = 0))) then (.bool (!decide (chosenE b = 0))) else undef), fun v _ => v = .bool ((!decide (chosenE a = 0)) || (!decide (chosenE b = 0)))] [[], [0], [1], [2], [2, 3], [2, 4]] [5] rfl rfl rfl ⟨fun _ _ _ _ h => h, fun _ _ _ _ h => h, fun _ _ _ _ h => h, fun _ _ _ _ h => h, fun _ _ _ _ h => h, fun _ _ _ _ h => h, trivial⟩ ⟨?_, ?_, ?_, ?_, ?_, ?_, trivial⟩ ?_
  · intro W26 hW27
    refine gather_nil ?_
    refine opg_none rfl ?_
    exact op_move rfl rfl ⟨⟨_, rfl, rfl⟩, (Below.refl _ _)⟩
  · intro W26 hW27
    rintro _ rfl
    refine gather_nil ?_
    refine opg_none rfl ?_
    exact op_neq rfl rfl rfl ⟨⟨_, rfl, rfl⟩, (Below.refl _ _)⟩
  · intro W26 hW27
    rintro _ rfl
    refine gather_nil ?_
    refine opg_none rfl ?_
    exact op_move rfl rfl ⟨⟨_, rfl, rfl⟩, (Below.refl _ _)⟩
  · intro W26 hW27
    rintro _ rfl
    refine gather_nil ?_
    refine opg_f1 rfl rfl (fun hg28 => ?_) (fun h => by rw [h, cond_false])
    exact op_move rfl rfl ⟨⟨_, rfl, (by rw [hg28, cond_true])⟩, (Below.refl _ _)⟩
  · intro W26 hW27
    rintro _ rfl
    intro v29 (hv30 : v29 = bif (!(!decide (chosenE a = 0))) then (.int .i64 (chosenE b)) else undef)
    refine gather_nil ?_
    refine opg_f1 rfl rfl (fun hg31 => ?_) (fun h => by rw [h, cond_false])
    obtain rfl : v29 = .int .i64 (chosenE b) := by rw [hv30, hg31, cond_true]
    exact op_neq rfl rfl rfl ⟨⟨_, rfl, (by rw [hg31, cond_true])⟩, (Below.refl _ _)⟩
  · intro W26 hW27
    rintro _ rfl
    intro v32 (hv33 : v32 = bif (!(!decide (chosenE a = 0))) then (.bool (!decide (chosenE b = 0))) else undef)
    refine gather_nil ?_
    refine opg_none rfl ?_
    exact op_or rfl rfl rfl (fun h => by rw [hv33, (not_i h), cond_true]) rfl ⟨⟨_, rfl, rfl⟩, (Below.refl _ _)⟩
  intro W34 hW35
  rintro _ rfl
  refine gather_nil ?_
  refine (then_norm ?_)
  refine wc_cond (b := (!decide (chosenE a = 0)) || (!decide (chosenE b = 0))) rfl (fun hc36 => ?_) (fun hc36 => ?_)
  · have hinv : ¬ (validSet a = true ∧ validSet b = true) := by rw [← chosenE_0, ← chosenE_0]; intro h; rw [h.1, h.2] at hc36; cases hc36
    refine wc_seq ?_
    refine wc_region ?_
    refine wl_op rfl (op_assign rfl rfl ?_)
    refine wl_op rfl (op_assign rfl rfl ?_)
    refine wl_op rfl (op_assign rfl rfl ?_)
    refine (wl_done (then_norm ?_))
    refine wc_ret ?_
    refine (then_ret ?_)
    have hB37 : Below w.heap.size w W34 := (below_step (below_step hB19 hE25) hW35)
    refine ⟨[_, _, _], ⟨rfl, rfl, rfl, trivial⟩, ⟨none, 0, 0, ?_, (by rw [agree, if_neg hinv]; exact rd_nil _ _ _), hB37⟩⟩
    rw [agree, if_neg hinv]
    rfl
  · have hval : validSet a = true ∧ validSet b = true := by rw [← chosenE_0, ← chosenE_0]; simpa using hc36
    obtain ⟨hva, hvb⟩ := hval
    refine wc_skip ?_
    refine (then_norm ?_)
    refine wc_seq ?_
    refine wc_region ?_
    refine wl_op rfl (op_move rfl rfl ?_)
    have hB38 : Below W17.heap.size W17 W34 := (below_step (below_step (Below.refl _ _) hE25) hW35)
    refine wl_op rfl (op_call ent40 rfl (value_spec (hp16.ext (flat_lifts _) hB38) (asc_chosen hva _) (by omega) (by omega)) rfl ?_)
    rintro _ W39 ⟨rfl, hE40⟩
    refine wl_op rfl (op_move rfl rfl ?_)
    have hB41 : Below W24.heap.size W24 W39 := (below_step (below_step (Below.refl _ _) hW35) hE40)
    refine wl_op rfl (op_call ent40 rfl (value_spec (hp23.ext (flat_lifts _) hB41) (asc_chosen hvb _) (by omega) (by omega)) rfl ?_)
    rintro _ W42 ⟨rfl, hE43⟩
    refine wl_op rfl (op_call ent42 rfl (greater_spec ent43 (fun W x hx hW => Agree1_spec) (f := fun x => x)) rfl ?_)
    rintro _ W44 ⟨rfl, hE45⟩
    refine wl_op rfl (op_build (v := .agg #[.int .i64 8, .int .i64 (if (fun x => x) (valueOf (chosenL a keepCalls) 8) < (fun x => x) (valueOf (chosenL b keepCalls) 8) then (valueOf (chosenL b keepCalls) 8) else (valueOf (chosenL a keepCalls) 8))]) rfl (fun w => by kernel_rfl) rfl ?_)
    refine wl_op rfl (op_move rfl rfl ?_)
    have hB46 : Below W17.heap.size W17 W44 := (below_step (below_step (below_step hB38 hE40) hE43) hE45)
    refine wl_op rfl (op_call ent40 rfl (value_spec (hp16.ext (flat_lifts _) hB46) (asc_chosen hva _) (by omega) (by omega)) rfl ?_)
    rintro _ W47 ⟨rfl, hE48⟩
    refine wl_op rfl (op_move rfl rfl ?_)
    have hB49 : Below W24.heap.size W24 W47 := (below_step (below_step (below_step hB41 hE43) hE45) hE48)
    refine wl_op rfl (op_call ent40 rfl (value_spec (hp23.ext (flat_lifts _) hB49) (asc_chosen hvb _) (by omega) (by omega)) rfl ?_)
    rintro _ W50 ⟨rfl, hE51⟩
    refine wl_op rfl (op_call ent42 rfl (greater_spec ent44 (fun W x hx hW => strength_spec (rng9 hva hvb hx).1 (rng9 hva hvb hx).2) (f := strengthI)) rfl ?_)
    rintro _ W52 ⟨rfl, hE53⟩
    refine wl_op rfl (op_build (v := .agg #[.int .i64 9, .int .i64 (if strengthI (valueOf (chosenL a keepCalls) 9) < strengthI (valueOf (chosenL b keepCalls) 9) then (valueOf (chosenL b keepCalls) 9) else (valueOf (chosenL a keepCalls) 9))]) rfl (fun w => by kernel_rfl) rfl ?_)
    refine wl_op rfl (op_move rfl rfl ?_)
    have hB54 : Below W17.heap.size W17 W52 := (below_step (below_step (below_step hB46 hE48) hE51) hE53)
    refine wl_op rfl (op_call ent40 rfl (value_spec (hp16.ext (flat_lifts _) hB54) (asc_chosen hva _) (by omega) (by omega)) rfl ?_)
    rintro _ W55 ⟨rfl, hE56⟩
    refine wl_op rfl (op_build (v := .agg #[.int .i64 10, .int .i64 (valueOf (chosenL a keepCalls) 10)]) rfl (fun w => by kernel_rfl) rfl ?_)
    refine wl_op rfl (op_move rfl rfl ?_)
    have hB57 : Below W17.heap.size W17 W55 := (below_step hB54 hE56)
    refine wl_op rfl (op_call ent40 rfl (value_spec (hp16.ext (flat_lifts _) hB57) (asc_chosen hva _) (by omega) (by omega)) rfl ?_)
    rintro _ W58 ⟨rfl, hE59⟩
    refine wl_op rfl (op_build (v := .agg #[.int .i64 11, .int .i64 (valueOf (chosenL a keepCalls) 11)]) rfl (fun w => by kernel_rfl) rfl ?_)
    refine wl_op rfl (op_move rfl rfl ?_)
    have hB60 : Below W17.heap.size W17 W58 := (below_step hB57 hE59)
    refine wl_op rfl (op_call ent40 rfl (value_spec (hp16.ext (flat_lifts _) hB60) (asc_chosen hva _) (by omega) (by omega)) rfl ?_)
    rintro _ W61 ⟨rfl, hE62⟩
    refine wl_op rfl (op_build (v := .agg #[.int .i64 12, .int .i64 (valueOf (chosenL a keepCalls) 12)]) rfl (fun w => by kernel_rfl) rfl ?_)
    refine wl_op rfl (op_move rfl rfl ?_)
    have hB63 : Below W17.heap.size W17 W61 := (below_step hB60 hE62)
    refine wl_op rfl (op_call ent40 rfl (value_spec (hp16.ext (flat_lifts _) hB63) (asc_chosen hva _) (by omega) (by omega)) rfl ?_)
    rintro _ W64 ⟨rfl, hE65⟩
    refine wl_op rfl (op_build (v := .agg #[.int .i64 13, .int .i64 (valueOf (chosenL a keepCalls) 13)]) rfl (fun w => by kernel_rfl) rfl ?_)
    refine wl_op rfl (op_buildSlice (cs := #[.int .i64 8, .int .i64 (if (fun x => x) (valueOf (chosenL a keepCalls) 8) < (fun x => x) (valueOf (chosenL b keepCalls) 8) then (valueOf (chosenL b keepCalls) 8) else (valueOf (chosenL a keepCalls) 8)), .int .i64 9, .int .i64 (if strengthI (valueOf (chosenL a keepCalls) 9) < strengthI (valueOf (chosenL b keepCalls) 9) then (valueOf (chosenL b keepCalls) 9) else (valueOf (chosenL a keepCalls) 9)), .int .i64 10, .int .i64 (valueOf (chosenL a keepCalls) 10), .int .i64 11, .int .i64 (valueOf (chosenL a keepCalls) 11), .int .i64 12, .int .i64 (valueOf (chosenL a keepCalls) 12), .int .i64 13, .int .i64 (valueOf (chosenL a keepCalls) 13)]) (e := 46) rfl (fun w => by kernel_rfl) rfl ?_)
    intro W66 b67 hN68
    have hb69 : W66.heap[b67]? = some (.cells #[.int .i64 8, .int .i64 (if (fun x => x) (valueOf (chosenL a keepCalls) 8) < (fun x => x) (valueOf (chosenL b keepCalls) 8) then (valueOf (chosenL b keepCalls) 8) else (valueOf (chosenL a keepCalls) 8)), .int .i64 9, .int .i64 (if strengthI (valueOf (chosenL a keepCalls) 9) < strengthI (valueOf (chosenL b keepCalls) 9) then (valueOf (chosenL b keepCalls) 9) else (valueOf (chosenL a keepCalls) 9)), .int .i64 10, .int .i64 (valueOf (chosenL a keepCalls) 10), .int .i64 11, .int .i64 (valueOf (chosenL a keepCalls) 11), .int .i64 12, .int .i64 (valueOf (chosenL a keepCalls) 12), .int .i64 13, .int .i64 (valueOf (chosenL a keepCalls) 13)] 46 (0, 0)) := hN68.blk
    refine wl_op rfl (op_assign rfl rfl ?_)
    refine (wl_done (then_norm ?_))
    refine WC.sub [(4, .slice none 0 0), (5, .int .i64 0), (6, .int .i64 0), (8, .int .i64 (chosenE a)), (9, .slice A120 n121 c122), (11, .slice (some ⟨b67, 0, none⟩) 6 6)] ⟨rfl, rfl, rfl, rfl, rfl, rfl, trivial⟩ ?_
    refine wc_join (fun l' w' => Sub [(4, .slice none 0 0), (5, .int .i64 0), (6, .int .i64 0), (8, .int .i64 (chosenE a)), (9, .slice A120 n121 c122), (11, .slice (some ⟨b67, 0, none⟩) 6 6)] l' ∧ Below W64.heap.size W64 w' ∧ w'.heap[b67]? = some (.cells #[.int .i64 8, .int .i64 (if (fun x => x) (valueOf (chosenL a keepCalls) 8) < (fun x => x) (valueOf (chosenL b keepCalls) 8) then (valueOf (chosenL b keepCalls) 8) else (valueOf (chosenL a keepCalls) 8)), .int .i64 9, .int .i64 (if strengthI (valueOf (chosenL a keepCalls) 9) < strengthI (valueOf (chosenL b keepCalls) 9) then (valueOf (chosenL b keepCalls) 9) else (valueOf (chosenL a keepCalls) 9)), .int .i64 10, .int .i64 (limitOf (agC a) (agC b)), .int .i64 11, .int .i64 (valueOf (chosenL a keepCalls) 11), .int .i64 12, .int .i64 (valueOf (chosenL a keepCalls) 12), .int .i64 13, .int .i64 (valueOf (chosenL a keepCalls) 13)] 46 (0, 0))) ?_ ?_
    · refine wc_seq ?_
      refine wc_region ?_
      refine wl_op rfl (op_move rfl rfl ?_)
      have hB71 : Below W24.heap.size W24 W66 := (below_new (below_step (below_step (below_step (below_step (below_step (below_step hB49 hE51) hE53) hE56) hE59) hE62) hE65) hN68)
      refine wl_op rfl (op_call ent40 rfl (value_spec (hp23.ext (flat_lifts _) hB71) (asc_chosen hvb _) (by omega) (by omega)) rfl ?_)
      rintro _ W72 ⟨rfl, hE73⟩
      refine wl_op rfl (op_assign rfl rfl ?_)
      refine (wl_done (then_norm ?_))
      refine wc_seq ?_
      refine wc_text [(4, .slice none 0 0), (5, .int .i64 0), (6, .int .i64 0), (8, .int .i64 (chosenE a)), (9, .slice A120 n121 c122), (11, .slice (some ⟨b67, 0, none⟩) 6 6), (12, .int .i64 (valueOf (chosenL b keepCalls) 10))] ⟨rfl, rfl, rfl, rfl, rfl, rfl, rfl, trivial⟩ [fun v _ => v = .int .i64 (valueOf (chosenL b keepCalls) 10), fun v _ => v = .bool (decide (0 < valueOf (chosenL b keepCalls) 10)), fun v _ => v = .bool (decide (0 < valueOf (chosenL b keepCalls) 10)), fun v _ => v = (bif (decide (0 < valueOf (chosenL b keepCalls) 10)) then (.slice (some ⟨b67, 0, none⟩) 6 6) else undef), fun v _ => v = (bif (decide (0 < valueOf (chosenL b keepCalls) 10)) then (.pointer (some ⟨b67, 4, none⟩)) else undef), fun v _ => v = (bif (decide (0 < valueOf (chosenL b keepCalls) 10)) then (.pointer (some ⟨b67, 4 + 1, none⟩)) else undef), fun v _ => v = (bif (decide (0 < valueOf (chosenL b keepCalls) 10)) then (.int .i64 (valueOf (chosenL a keepCalls) 10)) else undef), fun v _ => v = (bif (decide (0 < valueOf (chosenL b keepCalls) 10)) then (.bool (decide (valueOf (chosenL a keepCalls) 10 = 0))) else undef), fun v _ => v = (bif (decide (0 < valueOf (chosenL b keepCalls) 10)) then (.bool (decide (valueOf (chosenL a keepCalls) 10 = 0))) else undef), fun v _ => v = (bif ((decide (0 < valueOf (chosenL b keepCalls) 10)) && (!(decide (valueOf (chosenL a keepCalls) 10 = 0)))) then (.int .i64 (valueOf (chosenL b keepCalls) 10)) else undef), fun v _ => v = (bif ((decide (0 < valueOf (chosenL b keepCalls) 10)) && (!(decide (valueOf (chosenL a keepCalls) 10 = 0)))) then (.slice (some ⟨b67, 0, none⟩) 6 6) else undef), fun v _ => v = (bif ((decide (0 < valueOf (chosenL b keepCalls) 10)) && (!(decide (valueOf (chosenL a keepCalls) 10 = 0)))) then (.pointer (some ⟨b67, 4, none⟩)) else undef), fun v _ => v = (bif ((decide (0 < valueOf (chosenL b keepCalls) 10)) && (!(decide (valueOf (chosenL a keepCalls) 10 = 0)))) then (.pointer (some ⟨b67, 4 + 1, none⟩)) else undef), fun v _ => v = (bif ((decide (0 < valueOf (chosenL b keepCalls) 10)) && (!(decide (valueOf (chosenL a keepCalls) 10 = 0)))) then (.int .i64 (valueOf (chosenL a keepCalls) 10)) else undef), fun v _ => v = (bif ((decide (0 < valueOf (chosenL b keepCalls) 10)) && (!(decide (valueOf (chosenL a keepCalls) 10 = 0)))) then (.bool (decide (valueOf (chosenL b keepCalls) 10 < valueOf (chosenL a keepCalls) 10))) else undef), fun v _ => v = (bif (decide (0 < valueOf (chosenL b keepCalls) 10)) then (.bool ((decide (valueOf (chosenL a keepCalls) 10 = 0)) || (decide (valueOf (chosenL b keepCalls) 10 < valueOf (chosenL a keepCalls) 10)))) else undef), fun v _ => v = .bool ((decide (0 < valueOf (chosenL b keepCalls) 10)) && ((decide (valueOf (chosenL a keepCalls) 10 = 0)) || (decide (valueOf (chosenL b keepCalls) 10 < valueOf (chosenL a keepCalls) 10))))] [[], [0], [1], [2], [2, 3], [2, 4], [2, 5], [2, 6], [2, 7], [8], [8], [8, 10], [8, 11], [8, 12], [8, 9, 13], [2, 8, 14], [2, 15]] [16] rfl rfl rfl ⟨fun _ _ _ _ h => h, fun _ _ _ _ h => h, fun _ _ _ _ h => h, fun _ _ _ _ h => h, fun _ _ _ _ h => h, fun _ _ _ _ h => h, fun _ _ _ _ h => h, fun _ _ _ _ h => h, fun _ _ _ _ h => h, fun _ _ _ _ h => h, fun _ _ _ _ h => h, fun _ _ _ _ h => h, fun _ _ _ _ h => h, fun _ _ _ _ h => h, fun _ _ _ _ h => h, fun _ _ _ _ h => h, fun _ _ _ _ h => h, trivial⟩ ⟨?_, ?_, ?_, ?_, ?_, ?_, ?_, ?_, ?_, ?_, ?_, ?_, ?_, ?_, ?_, ?_, ?_, trivial⟩ ?_
      · intro W74 hW75
        refine gather_nil ?_
        refine opg_none rfl ?_
        exact op_move rfl rfl ⟨⟨_, rfl, rfl⟩, (Below.refl _ _)⟩
      · intro W74 hW75
        rintro _ rfl
        refine gather_nil ?_
        refine opg_none rfl ?_
        exact op_gtr rfl rfl rfl ⟨⟨_, rfl, rfl⟩, (Below.refl _ _)⟩
      · intro W74 hW75
        rintro _ rfl
        refine gather_nil ?_
        refine opg_none rfl ?_
        exact op_move rfl rfl ⟨⟨_, rfl, rfl⟩, (Below.refl _ _)⟩
      · intro W74 hW75
        rintro _ rfl
        refine gather_nil ?_
        refine opg_t1 rfl rfl (fun hg78 => ?_) (fun h => by rw [h, cond_false])
        exact op_move rfl rfl ⟨⟨_, rfl, (by rw [hg78, cond_true])⟩, (Below.refl _ _)⟩
      · intro W74 hW75
        rintro _ rfl
        intro v79 (hv80 : v79 = bif (decide (0 < valueOf (chosenL b keepCalls) 10)) then (.slice (some ⟨b67, 0, none⟩) 6 6) else undef)
        refine gather_nil ?_
        refine opg_t1 rfl rfl (fun hg81 => ?_) (fun h => by rw [h, cond_false])
        have hd82 := of_decide_eq_true hg81
        obtain rfl : v79 = .slice (some ⟨b67, 0, none⟩) 6 6 := by rw [hv80, hg81, cond_true]
        exact op_indexAddr (b := b67) (o := 0) (j := 2) rfl rfl und22 sz46 rfl rfl (by omega) rfl ⟨⟨_, rfl, (by rw [hg81, cond_true])⟩, (Below.refl _ _)⟩
      · intro W74 hW75
        rintro _ rfl
        intro v83 (hv84 : v83 = bif (decide (0 < valueOf (chosenL b keepCalls) 10)) then (.pointer (some ⟨b67, 4, none⟩)) else undef)
        refine gather_nil ?_
        refine opg_t1 rfl rfl (fun hg85 => ?_) (fun h => by rw [h, cond_false])
        obtain rfl : v83 = .pointer (some ⟨b67, 4, none⟩) := by rw [hv84, hg85, cond_true]
        exact op_fieldAddr rfl fa46_1 rfl ⟨⟨_, rfl, (by rw [hg85, cond_true])⟩, (Below.refl _ _)⟩
      · intro W74 hW75
        rintro _ rfl
        intro v86 (hv87 : v86 = bif (decide (0 < valueOf (chosenL b keepCalls) 10)) then (.pointer (some ⟨b67, 4 + 1, none⟩)) else undef)
        refine gather_nil ?_
        refine opg_t1 rfl rfl (fun hg88 => ?_) (fun h => by rw [h, cond_false])
        have hd89 := of_decide_eq_true hg88
        obtain rfl : v86 = .pointer (some ⟨b67, 4 + 1, none⟩) := by rw [hv87, hg88, cond_true]
        have hb90 : W74.heap[b67]? = some (.cells #[.int .i64 8, .int .i64 (if (fun x => x) (valueOf (chosenL a keepCalls) 8) < (fun x => x) (valueOf (chosenL b keepCalls) 8) then (valueOf (chosenL b keepCalls) 8) else (valueOf (chosenL a keepCalls) 8)), .int .i64 9, .int .i64 (if strengthI (valueOf (chosenL a keepCalls) 9) < strengthI (valueOf (chosenL b keepCalls) 9) then (valueOf (chosenL b keepCalls) 9) else (valueOf (chosenL a keepCalls) 9)), .int .i64 10, .int .i64 (valueOf (chosenL a keepCalls) 10), .int .i64 11, .int .i64 (valueOf (chosenL a keepCalls) 11), .int .i64 12, .int .i64 (valueOf (chosenL a keepCalls) 12), .int .i64 13, .int .i64 (valueOf (chosenL a keepCalls) 13)] 46 (0, 0)) := (blk_ext (blk_ext hb69 hE73) hW75)
        exact op_load1 (v := .int .i64 (valueOf (chosenL a keepCalls) 10)) rfl agg3 (cell_blk hb90 rfl) rfl ⟨⟨_, rfl, (by rw [hg88, cond_true])⟩, (Below.refl _ _)⟩
      · intro W74 hW75
        rintro _ rfl
        intro v91 (hv92 : v91 = bif (decide (0 < valueOf (chosenL b keepCalls) 10)) then (.int .i64 (valueOf (chosenL a keepCalls) 10)) else undef)
        refine gather_nil ?_
        refine opg_t1 rfl rfl (fun hg93 => ?_) (fun h => by rw [h, cond_false])
        have hd94 := of_decide_eq_true hg93
        obtain rfl : v91 = .int .i64 (valueOf (chosenL a keepCalls) 10) := by rw [hv92, hg93, cond_true]
        exact op_eql rfl rfl rfl ⟨⟨_, rfl, (by rw [hg93, cond_true])⟩, (Below.refl _ _)⟩
      · intro W74 hW75
        rintro _ rfl
        intro v95 (hv96 : v95 = bif (decide (0 < valueOf (chosenL b keepCalls) 10)) then (.bool (decide (valueOf (chosenL a keepCalls) 10 = 0))) else undef)
        refine gather_nil ?_
        refine opg_t1 rfl rfl (fun hg97 => ?_) (fun h => by rw [h, cond_false])
        obtain rfl : v95 = .bool (decide (valueOf (chosenL a keepCalls) 10 = 0)) := by rw [hv96, hg97, cond_true]
        exact op_move rfl rfl ⟨⟨_, rfl, (by rw [hg97, cond_true])⟩, (Below.refl _ _)⟩
      · intro W74 hW75
        intro v98 (hv99 : v98 = bif (decide (0 < valueOf (chosenL b keepCalls) 10)) then (.bool (decide (valueOf (chosenL a keepCalls) 10 = 0))) else undef)
        refine gather_nil ?_
        refine opg_f rfl rfl hv99 (fun hg100 => ?_) (fun h => by rw [h, cond_false])
        obtain rfl : v98 = .bool (decide (valueOf (chosenL a keepCalls) 10 = 0)) := by rw [hv99, (and_l hg100), cond_true]
        exact op_move rfl rfl ⟨⟨_, rfl, (by rw [hg100, cond_true])⟩, (Below.refl _ _)⟩
      · intro W74 hW75
        intro v101 (hv102 : v101 = bif (decide (0 < valueOf (chosenL b keepCalls) 10)) then (.bool (decide (valueOf (chosenL a keepCalls) 10 = 0))) else undef)
        refine gather_nil ?_
        refine opg_f rfl rfl hv102 (fun hg103 => ?_) (fun h => by rw [h, cond_false])
        obtain rfl : v101 = .bool (decide (valueOf (chosenL a keepCalls) 10 = 0)) := by rw [hv102, (and_l hg103), cond_true]
        exact op_move rfl rfl ⟨⟨_, rfl, (by rw [hg103, cond_true])⟩, (Below.refl _ _)⟩
      · intro W74 hW75
        intro v104 (hv105 : v104 = bif (decide (0 < valueOf (chosenL b keepCalls) 10)) then (.bool (decide (valueOf (chosenL a keepCalls) 10 = 0))) else undef)
        intro v106 (hv107 : v106 = bif ((decide (0 < valueOf (chosenL b keepCalls) 10)) && (!(decide (valueOf (chosenL a keepCalls) 10 = 0)))) then (.slice (some ⟨b67, 0, none⟩) 6 6) else undef)
        refine gather_nil ?_
        refine opg_f rfl rfl hv105 (fun hg108 => ?_) (fun h => by rw [h, cond_false])
        have hd109 := of_decide_eq_true (and_l hg108)
        obtain rfl : v104 = .bool (decide (valueOf (chosenL a keepCalls) 10 = 0)) := by rw [hv105, (and_l hg108), cond_true]
        obtain rfl : v106 = .slice (some ⟨b67, 0, none⟩) 6 6 := by rw [hv107, hg108, cond_true]
        exact op_indexAddr (b := b67) (o := 0) (j := 2) rfl rfl und22 sz46 rfl rfl (by omega) rfl ⟨⟨_, rfl, (by rw [hg108, cond_true])⟩, (Below.refl _ _)⟩
      · intro W74 hW75
        intro v110 (hv111 : v110 = bif (decide (0 < valueOf (chosenL b keepCalls) 10)) then (.bool (decide (valueOf (chosenL a keepCalls) 10 = 0))) else undef)
        intro v112 (hv113 : v112 = bif ((decide (0 < valueOf (chosenL b keepCalls) 10)) && (!(decide (valueOf (chosenL a keepCalls) 10 = 0)))) then (.pointer (some ⟨b67, 4, none⟩)) else undef)
        refine gather_nil ?_
        refine opg_f rfl rfl hv111 (fun hg114 => ?_) (fun h => by rw [h, cond_false])
        obtain rfl : v110 = .bool (decide (valueOf (chosenL a keepCalls) 10 = 0)) := by rw [hv111, (and_l hg114), cond_true]
        obtain rfl : v112 = .pointer (some ⟨b67, 4, none⟩) := by rw [hv113, hg114, cond_true]
        exact op_fieldAddr rfl fa46_1 rfl ⟨⟨_, rfl, (by rw [hg114, cond_true])⟩, (Below.refl _ _)⟩
      · intro W74 hW75
        intro v115 (hv116 : v115 = bif (decide (0 < valueOf (chosenL b keepCalls) 10)) then (.bool (decide (valueOf (chosenL a keepCalls) 10 = 0))) else undef)
        intro v117 (hv118 : v117 = bif ((decide (0 < valueOf (chosenL b keepCalls) 10)) && (!(decide (valueOf (chosenL a keepCalls) 10 = 0)))) then (.pointer (some ⟨b67, 4 + 1, none⟩)) else undef)
        refine gather_nil ?_
        refine opg_f rfl rfl hv116 (fun hg119 => ?_) (fun h => by rw [h, cond_false])
        have hd120 := of_decide_eq_true (and_l hg119)
        obtain rfl : v115 = .bool (decide (valueOf (chosenL a keepCalls) 10 = 0)) := by rw [hv116, (and_l hg119), cond_true]
        obtain rfl : v117 = .pointer (some ⟨b67, 4 + 1, none⟩) := by rw [hv118, hg119, cond_true]
        have hb121 : W74.heap[b67]? = some (.cells #[.int .i64 8, .int .i64 (if (fun x => x) (valueOf (chosenL a keepCalls) 8) < (fun x => x) (valueOf (chosenL b keepCalls) 8) then (valueOf (chosenL b keepCalls) 8) else (valueOf (chosenL a keepCalls) 8)), .int .i64 9, .int .i64 (if strengthI (valueOf (chosenL a keepCalls) 9) < strengthI (valueOf (chosenL b keepCalls) 9) then (valueOf (chosenL b keepCalls) 9) else (valueOf (chosenL a keepCalls) 9)), .int .i64 10, .int .i64 (valueOf (chosenL a keepCalls) 10), .int .i64 11, .int .i64 (valueOf (chosenL a keepCalls) 11), .int .i64 12, .int .i64 (valueOf (chosenL a keepCalls) 12), .int .i64 13, .int .i64 (valueOf (chosenL a keepCalls) 13)] 46 (0, 0)) := (blk_ext (blk_ext hb69 hE73) hW75)
        exact op_load1 (v := .int .i64 (valueOf (chosenL a keepCalls) 10)) rfl agg3 (cell_blk hb121 rfl) rfl ⟨⟨_, rfl, (by rw [hg119, cond_true])⟩, (Below.refl _ _)⟩
      · intro W74 hW75
        intro v122 (hv123 : v122 = bif (decide (0 < valueOf (chosenL b keepCalls) 10)) then (.bool (decide (valueOf (chosenL a keepCalls) 10 = 0))) else undef)
        intro v124 (hv125 : v124 = bif ((decide (0 < valueOf (chosenL b keepCalls) 10)) && (!(decide (valueOf (chosenL a keepCalls) 10 = 0)))) then (.int .i64 (valueOf (chosenL b keepCalls) 10)) else undef)
        intro v126 (hv127 : v126 = bif ((decide (0 < valueOf (chosenL b keepCalls) 10)) && (!(decide (valueOf (chosenL a keepCalls) 10 = 0)))) then (.int .i64 (valueOf (chosenL a keepCalls) 10)) else undef)
        refine gather_nil ?_
        refine opg_f rfl rfl hv123 (fun hg128 => ?_) (fun h => by rw [h, cond_false])
        have hd129 := of_decide_eq_true (and_l hg128)
        obtain rfl : v122 = .bool (decide (valueOf (chosenL a keepCalls) 10 = 0)) := by rw [hv123, (and_l hg128), cond_true]
        obtain rfl : v124 = .int .i64 (valueOf (chosenL b keepCalls) 10) := by rw [hv125, hg128, cond_true]
        obtain rfl : v126 = .int .i64 (valueOf (chosenL a keepCalls) 10) := by rw [hv127, hg128, cond_true]
        exact op_lss rfl rfl rfl ⟨⟨_, rfl, (by rw [hg128, cond_true])⟩, (Below.refl _ _)⟩
      · intro W74 hW75
        rintro _ rfl
        intro v130 (hv131 : v130 = bif (decide (0 < valueOf (chosenL b keepCalls) 10)) then (.bool (decide (valueOf (chosenL a keepCalls) 10 = 0))) else undef)
        intro v132 (hv133 : v132 = bif ((decide (0 < valueOf (chosenL b keepCalls) 10)) && (!(decide (valueOf (chosenL a keepCalls) 10 = 0)))) then (.bool (decide (valueOf (chosenL b keepCalls) 10 < valueOf (chosenL a keepCalls) 10))) else undef)
        refine gather_nil ?_
        refine opg_t1 rfl rfl (fun hg134 => ?_) (fun h => by rw [h, cond_false])
        obtain rfl : v130 = .bool (decide (valueOf (chosenL a keepCalls) 10 = 0)) := by rw [hv131, hg134, cond_true]
        exact op_or rfl rfl rfl (fun h => by rw [hv133, (and_i hg134 (not_i h)), cond_true]) rfl ⟨⟨_, rfl, (by rw [hg134, cond_true])⟩, (Below.refl _ _)⟩
      · intro W74 hW75
        rintro _ rfl
        intro v135 (hv136 : v135 = bif (decide (0 < valueOf (chosenL b keepCalls) 10)) then (.bool ((decide (valueOf (chosenL a keepCalls) 10 = 0)) || (decide (valueOf (chosenL b keepCalls) 10 < valueOf (chosenL a keepCalls) 10)))) else undef)
        refine gather_nil ?_
        refine opg_none rfl ?_
        exact op_and rfl rfl rfl (fun h => by rw [hv136, h, cond_true]) rfl ⟨⟨_, rfl, rfl⟩, (Below.refl _ _)⟩
      intro W137 hW138
      rintro _ rfl
      refine gather_nil ?_
      refine (then_norm ?_)
      refine wc_cond (b := (decide (0 < valueOf (chosenL b keepCalls) 10)) && ((decide (valueOf (chosenL a keepCalls) 10 = 0)) || (decide (valueOf (chosenL b keepCalls) 10 < valueOf (chosenL a keepCalls) 10)))) rfl (fun hc139 => ?_) (fun hc139 => ?_)
      · refine wc_region ?_
        refine wl_op rfl (op_move rfl rfl ?_)
        refine wl_op rfl (op_move rfl rfl ?_)
        refine wl_op rfl (op_indexAddr (b := b67) (o := 0) (j := 2) rfl rfl und22 sz46 rfl rfl (by omega) rfl ?_)
        refine wl_op rfl (op_fieldAddr rfl fa46_1 rfl ?_)
        have hb140 : W137.heap[b67]? = some (.cells #[.int .i64 8, .int .i64 (if (fun x => x) (valueOf (chosenL a keepCalls) 8) < (fun x => x) (valueOf (chosenL b keepCalls) 8) then (valueOf (chosenL b keepCalls) 8) else (valueOf (chosenL a keepCalls) 8)), .int .i64 9, .int .i64 (if strengthI (valueOf (chosenL a keepCalls) 9) < strengthI (valueOf (chosenL b keepCalls) 9) then (valueOf (chosenL b keepCalls) 9) else (valueOf (chosenL a keepCalls) 9)), .int .i64 10, .int .i64 (valueOf (chosenL a keepCalls) 10), .int .i64 11, .int .i64 (valueOf (chosenL a keepCalls) 11), .int .i64 12, .int .i64 (valueOf (chosenL a keepCalls) 12), .int .i64 13, .int .i64 (valueOf (chosenL a keepCalls) 13)] 46 (0, 0)) := (blk_ext (blk_ext hb69 hE73) hW138)
        refine wl_op rfl (op_store rfl rfl sz3 hb140 rfl rfl ?_)
        intro W141 hP142 hb143
        have hb143 : W141.heap[b67]? = some (.cells #[.int .i64 8, .int .i64 (if (fun x => x) (valueOf (chosenL a keepCalls) 8) < (fun x => x) (valueOf (chosenL b keepCalls) 8) then (valueOf (chosenL b keepCalls) 8) else (valueOf (chosenL a keepCalls) 8)), .int .i64 9, .int .i64 (if strengthI (valueOf (chosenL a keepCalls) 9) < strengthI (valueOf (chosenL b keepCalls) 9) then (valueOf (chosenL b keepCalls) 9) else (valueOf (chosenL a keepCalls) 9)), .int .i64 10, .int .i64 (valueOf (chosenL b keepCalls) 10), .int .i64 11, .int .i64 (valueOf (chosenL a keepCalls) 11), .int .i64 12, .int .i64 (valueOf (chosenL a keepCalls) 12), .int .i64 13, .int .i64 (valueOf (chosenL a keepCalls) 13)] 46 (0, 0)) := hb143
        refine (wl_done (then_norm ?_))
        have hl : limitOf (agC a) (agC b) = valueOf (agC b) 10 := by unfold limitOf; rw [if_pos (lim_t hc139)]
        have hB144 : Below W64.heap.size W64 W141 := (hP142.below (below_step (below_step (below_new (Below.refl _ _) hN68) hE73) hW138) (le_new (Below.refl _ _) hN68))
        exact ⟨⟨rfl, rfl, rfl, rfl, rfl, rfl, trivial⟩, hB144, (by rw [hl]; exact hb143)⟩
      · refine wc_skip ?_
        refine (then_norm ?_)
        have hl : limitOf (agC a) (agC b) = valueOf (agC a) 10 := by unfold limitOf; rw [if_neg (lim_f hc139)]
        have hb145 : W137.heap[b67]? = some (.cells #[.int .i64 8, .int .i64 (if (fun x => x) (valueOf (chosenL a keepCalls) 8) < (fun x => x) (valueOf (chosenL b keepCalls) 8) then (valueOf (chosenL b keepCalls) 8) else (valueOf (chosenL a keepCalls) 8)), .int .i64 9, .int .i64 (if strengthI (valueOf (chosenL a keepCalls) 9) < strengthI (valueOf (chosenL b keepCalls) 9) then (valueOf (chosenL b keepCalls) 9) else (valueOf (chosenL a keepCalls) 9)), .int .i64 10, .int .i64 (valueOf (chosenL a keepCalls) 10), .int .i64 11, .int .i64 (valueOf (chosenL a keepCalls) 11), .int .i64 12, .int .i64 (valueOf (chosenL a keepCalls) 12), .int .i64 13, .int .i64 (valueOf (chosenL a keepCalls) 13)] 46 (0, 0)) := (blk_ext (blk_ext hb69 hE73) hW138)
        have hB146 : Below W64.heap.size W64 W137 := (below_step (below_step (below_new (Below.refl _ _) hN68) hE73) hW138)
        exact ⟨⟨rfl, rfl, rfl, rfl, rfl, rfl, trivial⟩, hB146, (by rw [hl]; exact hb145)⟩
    · rintro l' W70 ⟨hsub, hE147, hb148⟩
      refine WC.sub _ hsub ?_
      refine wc_seq ?_
      refine wc_seq ?_
      refine wc_draw mixed [(4, .slice none 0 0), (5, .int .i64 0), (6, .int .i64 0), (8, .int .i64 (chosenE a)), (9, .slice A120 n121 c122), (11, .slice (some ⟨b67, 0, none⟩) 6 6)] ⟨rfl, rfl, rfl, rfl, rfl, rfl, trivial⟩ [fun v _ => v = .slice (some ⟨b67, 0, none⟩) 6 6, fun v _ => v = .pointer (some ⟨b67, 6, none⟩), fun v _ => v = .pointer (some ⟨b67, 6 + 1, none⟩), fun v _ => v = .int .i64 (valueOf (chosenL a keepCalls) 11), fun v _ => v = .slice A120 n121 c122, fun v _ => v = .int .i64 (valueOf (chosenL b keepCalls) 11), fun v _ => v = .bool (decide (valueOf (chosenL b keepCalls) 11 < valueOf (chosenL a keepCalls) 11))] [[], [0], [1], [2], [], [4], [3, 5]] [6] rfl rfl rfl ⟨fun _ _ _ _ h => h, fun _ _ _ _ h => h, fun _ _ _ _ h => h, fun _ _ _ _ h => h, fun _ _ _ _ h => h, fun _ _ _ _ h => h, fun _ _ _ _ h => h, trivial⟩ ⟨?_, ?_, ?_, ?_, ?_, ?_, ?_, trivial⟩ ?_
      · intro W149 hW150
        refine gather_nil ?_
        refine opg_none rfl ?_
        exact op_move rfl rfl ⟨⟨_, rfl, rfl⟩, (Below.refl _ _)⟩
      · intro W149 hW150
        rintro _ rfl
        refine gather_nil ?_
        refine opg_none rfl ?_
        exact op_indexAddr (b := b67) (o := 0) (j := 3) rfl rfl und22 sz46 rfl rfl (by omega) rfl ⟨⟨_, rfl, rfl⟩, (Below.refl _ _)⟩
      · intro W149 hW150
        rintro _ rfl
        refine gather_nil ?_
        refine opg_none rfl ?_
        exact op_fieldAddr rfl fa46_1 rfl ⟨⟨_, rfl, rfl⟩, (Below.refl _ _)⟩
      · intro W149 hW150
        rintro _ rfl
        refine gather_nil ?_
        refine opg_none rfl ?_
        have hb153 : W149.heap[b67]? = some (.cells #[.int .i64 8, .int .i64 (if (fun x => x) (valueOf (chosenL a keepCalls) 8) < (fun x => x) (valueOf (chosenL b keepCalls) 8) then (valueOf (chosenL b keepCalls) 8) else (valueOf (chosenL a keepCalls) 8)), .int .i64 9, .int .i64 (if strengthI (valueOf (chosenL a keepCalls) 9) < strengthI (valueOf (chosenL b keepCalls) 9) then (valueOf (chosenL b keepCalls) 9) else (valueOf (chosenL a keepCalls) 9)), .int .i64 10, .int .i64 (limitOf (agC a) (agC b)), .int .i64 11, .int .i64 (valueOf (chosenL a keepCalls) 11), .int .i64 12, .int .i64 (valueOf (chosenL a keepCalls) 12), .int .i64 13, .int .i64 (valueOf (chosenL a keepCalls) 13)] 46 (0, 0)) := (blk_ext hb148 hW150)
        exact op_load1 (v := .int .i64 (valueOf (chosenL a keepCalls) 11)) rfl agg3 (cell_blk hb153 rfl) rfl ⟨⟨_, rfl, rfl⟩, (Below.refl _ _)⟩
      · intro W149 hW150
        refine gather_nil ?_
        refine opg_none rfl ?_
        exact op_move rfl rfl ⟨⟨_, rfl, rfl⟩, (Below.refl _ _)⟩
      · intro W149 hW150
        rintro _ rfl
        refine gather_nil ?_
        refine opg_none rfl ?_
        have hB154 : Below W24.heap.size W24 W149 := (below_step (below_step (below_step (below_step (below_step (below_step (below_step (below_step hB49 hE51) hE53) hE56) hE59) hE62) hE65) hE147) hW150)
        refine op_call ent40 rfl (value_spec (hp23.ext (flat_lifts _) hB154) (asc_chosen hvb _) (by omega) (by omega)) rfl ?_
        rintro _ W155 ⟨rfl, hE156⟩
        exact ⟨⟨_, rfl, rfl⟩, hE156⟩
      · intro W149 hW150
        rintro _ rfl
        rintro _ rfl
        refine gather_nil ?_
        refine opg_none rfl ?_
        exact op_gtr rfl rfl rfl ⟨⟨_, rfl, rfl⟩, (Below.refl _ _)⟩
      intro W157 hW158
      rintro _ rfl
      refine gather_nil ?_
      refine (then_norm ?_)
      refine wc_cond (b := decide (valueOf (chosenL b keepCalls) 11 < valueOf (chosenL a keepCalls) 11)) rfl (fun hc159 => ?_) (fun hc159 => ?_)
      · have hc159r := hc159
        have hc159 := of_decide_eq_true hc159
        refine wc_seq ?_
        refine wc_region ?_
        refine wl_op rfl (op_assign rfl rfl ?_)
        refine wl_op rfl (op_assign rfl rfl ?_)
        refine wl_op rfl (op_assign rfl rfl ?_)
        refine (wl_done (then_norm ?_))
        refine wc_ret ?_
        refine (then_ret ?_)
        have hB160 : Below w.heap.size w W157 := (below_step (below_step (below_step (below_step (below_step (below_step (below_step (below_step (below_step (below_step (below_step (below_step (below_step (below_step hB19 hE25) hW35) hE40) hE43) hE45) hE48) hE51) hE53) hE56) hE59) hE62) hE65) hE147) hW158)
        have hag := agree_route hva hvb hc159
        refine ⟨[_, _, _], ⟨rfl, rfl, rfl, trivial⟩, ⟨none, 0, 0, ?_, (by rw [hag]; exact rd_nil _ _ _), hB160⟩⟩
        rw [hag]
        rfl
      · have hc159r := hc159
        have hc159 := of_decide_eq_false hc159
        refine wc_skip ?_
        refine (then_norm ?_)
        refine wc_join (fun l' w' => Sub [(4, .slice none 0 0), (5, .int .i64 0), (6, .int .i64 0), (8, .int .i64 (chosenE a)), (9, .slice A120 n121 c122), (11, .slice (some ⟨b67, 0, none⟩) 6 6)] l' ∧ Below W64.heap.size W64 w' ∧ w'.heap[b67]? = some (.cells #[.int .i64 8, .int .i64 (if (fun x => x) (valueOf (chosenL a keepCalls) 8) < (fun x => x) (valueOf (chosenL b keepCalls) 8) then (valueOf (chosenL b keepCalls) 8) else (valueOf (chosenL a keepCalls) 8)), .int .i64 9, .int .i64 (if strengthI (valueOf (chosenL a keepCalls) 9) < strengthI (valueOf (chosenL b keepCalls) 9) then (valueOf (chosenL b keepCalls) 9) else (valueOf (chosenL a keepCalls) 9)), .int .i64 10, .int .i64 (limitOf (agC a) (agC b)), .int .i64 11, .int .i64 (valueOf (chosenL a keepCalls) 11), .int .i64 12, .int .i64 (prioOf (agC a) (agC b)), .int .i64 13, .int .i64 (valueOf (chosenL a keepCalls) 13)] 46 (0, 0))) ?_ ?_
        · refine wc_seq ?_
          refine wc_region ?_
          refine wl_op rfl (op_move rfl rfl ?_)
          have hB162 : Below W24.heap.size W24 W157 := (below_step (below_step (below_step (below_step (below_step (below_step (below_step (below_step hB49 hE51) hE53) hE56) hE59) hE62) hE65) hE147) hW158)
          refine wl_op rfl (op_call ent45 rfl (ContainsFunc_spec (hp23.ext (flat_lifts _) hB162) ent46 (fun W a b hm hW => Agree2_spec) (keep := fun p => decide (p.kind = 12))) rfl ?_)
          rintro _ W163 ⟨rfl, hE164⟩
          refine (wl_done (then_norm ?_))
          refine wc_cond (b := (chosenL b keepCalls).any (fun p => decide (p.kind = 12))) rfl (fun hc165 => ?_) (fun hc165 => ?_)
          · refine wc_draw_tail 8 mixed [(4, .slice none 0 0), (5, .int .i64 0), (6, .int .i64 0), (8, .int .i64 (chosenE a)), (9, .slice A120 n121 c122), (11, .slice (some ⟨b67, 0, none⟩) 6 6)] ⟨rfl, rfl, rfl, rfl, rfl, rfl, trivial⟩ [fun v _ => v = .slice (some ⟨b67, 0, none⟩) 6 6, fun v _ => v = .slice (some ⟨b67, 0, none⟩) 6 6, fun v _ => v = .pointer (some ⟨b67, 8, none⟩), fun v _ => v = .pointer (some ⟨b67, 8 + 1, none⟩), fun v _ => v = .int .i64 (valueOf (chosenL a keepCalls) 12), fun v _ => v = .slice A120 n121 c122, fun v _ => v = .int .i64 (valueOf (chosenL b keepCalls) 12), fun v _ => v = .int .i64 (if valueOf (chosenL b keepCalls) 12 < valueOf (chosenL a keepCalls) 12 then valueOf (chosenL b keepCalls) 12 else valueOf (chosenL a keepCalls) 12)] [[], [], [1], [2], [3], [], [5], [4, 6]] [0, 7] rfl rfl rfl rfl rfl rfl ⟨fun _ _ _ _ h => h, fun _ _ _ _ h => h, fun _ _ _ _ h => h, fun _ _ _ _ h => h, fun _ _ _ _ h => h, fun _ _ _ _ h => h, fun _ _ _ _ h => h, fun _ _ _ _ h => h, trivial⟩ ⟨?_, ?_, ?_, ?_, ?_, ?_, ?_, ?_, trivial⟩ ?_
            · intro W166 hW167
              refine gather_nil ?_
              refine opg_none rfl ?_
              exact op_move rfl rfl ⟨⟨_, rfl, rfl⟩, (Below.refl _ _)⟩
            · intro W166 hW167
              refine gather_nil ?_
              refine opg_none rfl ?_
              exact op_move rfl rfl ⟨⟨_, rfl, rfl⟩, (Below.refl _ _)⟩
            · intro W166 hW167
              rintro _ rfl
              refine gather_nil ?_
              refine opg_none rfl ?_
              exact op_indexAddr (b := b67) (o := 0) (j := 4) rfl rfl und22 sz46 rfl rfl (by omega) rfl ⟨⟨_, rfl, rfl⟩, (Below.refl _ _)⟩
            · intro W166 hW167
              rintro _ rfl
              refine gather_nil ?_
              refine opg_none rfl ?_
              exact op_fieldAddr rfl fa46_1 rfl ⟨⟨_, rfl, rfl⟩, (Below.refl _ _)⟩
            · intro W166 hW167
              rintro _ rfl
              refine gather_nil ?_
              refine opg_none rfl ?_
              have hb170 : W166.heap[b67]? = some (.cells #[.int .i64 8, .int .i64 (if (fun x => x) (valueOf (chosenL a keepCalls) 8) < (fun x => x) (valueOf (chosenL b keepCalls) 8) then (valueOf (chosenL b keepCalls) 8) else (valueOf (chosenL a keepCalls) 8)), .int .i64 9, .int .i64 (if strengthI (valueOf (chosenL a keepCalls) 9) < strengthI (valueOf (chosenL b keepCalls) 9) then (valueOf (chosenL b keepCalls) 9) else (valueOf (chosenL a keepCalls) 9)), .int .i64 10, .int .i64 (limitOf (agC a) (agC b)), .int .i64 11, .int .i64 (valueOf (chosenL a keepCalls) 11), .int .i64 12, .int .i64 (valueOf (chosenL a keepCalls) 12), .int .i64 13, .int .i64 (valueOf (chosenL a keepCalls) 13)] 46 (0, 0)) := (blk_ext (blk_ext (blk_ext hb148 hW158) hE164) hW167)
              exact op_load1 (v := .int .i64 (valueOf (chosenL a keepCalls) 12)) rfl agg3 (cell_blk hb170 rfl) rfl ⟨⟨_, rfl, rfl⟩, (Below.refl _ _)⟩
            · intro W166 hW167
              refine gather_nil ?_
              refine opg_none rfl ?_
              exact op_move rfl rfl ⟨⟨_, rfl, rfl⟩, (Below.refl _ _)⟩
            · intro W166 hW167
              rintro _ rfl
              refine gather_nil ?_
              refine opg_none rfl ?_
              have hB171 : Below W24.heap.size W24 W166 := (below_step (below_step hB162 hE164) hW167)
              refine op_call ent40 rfl (value_spec (hp23.ext (flat_lifts _) hB171) (asc_chosen hvb _) (by omega) (by omega)) rfl ?_
              rintro _ W172 ⟨rfl, hE173⟩
              exact ⟨⟨_, rfl, rfl⟩, hE173⟩
            · intro W166 hW167
              rintro _ rfl
              rintro _ rfl
              refine gather_nil ?_
              refine opg_none rfl ?_
              exact op_min rfl rfl rfl rfl ⟨⟨_, rfl, rfl⟩, (Below.refl _ _)⟩
            intro W174 hW175
            rintro _ rfl
            rintro _ rfl
            refine gather_nil ?_
            refine wl_op rfl (op_indexAddr (b := b67) (o := 0) (j := 4) rfl rfl und22 sz46 rfl rfl (by omega) rfl ?_)
            refine wl_op rfl (op_fieldAddr rfl fa46_1 rfl ?_)
            have hb176 : W174.heap[b67]? = some (.cells #[.int .i64 8, .int .i64 (if (fun x => x) (valueOf (chosenL a keepCalls) 8) < (fun x => x) (valueOf (chosenL b keepCalls) 8) then (valueOf (chosenL b keepCalls) 8) else (valueOf (chosenL a keepCalls) 8)), .int .i64 9, .int .i64 (if strengthI (valueOf (chosenL a keepCalls) 9) < strengthI (valueOf (chosenL b keepCalls) 9) then (valueOf (chosenL b keepCalls) 9) else (valueOf (chosenL a keepCalls) 9)), .int .i64 10, .int .i64 (limitOf (agC a) (agC b)), .int .i64 11, .int .i64 (valueOf (chosenL a keepCalls) 11), .int .i64 12, .int .i64 (valueOf (chosenL a keepCalls) 12), .int .i64 13, .int .i64 (valueOf (chosenL a keepCalls) 13)] 46 (0, 0)) := (blk_ext (blk_ext (blk_ext hb148 hW158) hE164) hW175)
            refine wl_op rfl (op_store rfl rfl sz3 hb176 rfl rfl ?_)
            intro W177 hP178 hb179
            have hb179 : W177.heap[b67]? = some (.cells #[.int .i64 8, .int .i64 (if (fun x => x) (valueOf (chosenL a keepCalls) 8) < (fun x => x) (valueOf (chosenL b keepCalls) 8) then (valueOf (chosenL b keepCalls) 8) else (valueOf (chosenL a keepCalls) 8)), .int .i64 9, .int .i64 (if strengthI (valueOf (chosenL a keepCalls) 9) < strengthI (valueOf (chosenL b keepCalls) 9) then (valueOf (chosenL b keepCalls) 9) else (valueOf (chosenL a keepCalls) 9)), .int .i64 10, .int .i64 (limitOf (agC a) (agC b)), .int .i64 11, .int .i64 (valueOf (chosenL a keepCalls) 11), .int .i64 12, .int .i64 (if valueOf (chosenL b keepCalls) 12 < valueOf (chosenL a keepCalls) 12 then valueOf (chosenL b keepCalls) 12 else valueOf (chosenL a keepCalls) 12), .int .i64 13, .int .i64 (valueOf (chosenL a keepCalls) 13)] 46 (0, 0)) := hb179
            refine (wl_done (then_norm ?_))
            have hl : prioOf (agC a) (agC b) = (if valueOf (agC b) 12 < valueOf (agC a) 12 then valueOf (agC b) 12 else valueOf (agC a) 12) := by unfold prioOf; rw [if_pos hc165]
            have hB180 : Below W64.heap.size W64 W177 := (hP178.below (below_step (below_step (below_step (below_step (Below.refl _ _) hE147) hW158) hE164) hW175) (le_new (Below.refl _ _) hN68))
            exact ⟨⟨rfl, rfl, rfl, rfl, rfl, rfl, trivial⟩, hB180, (by rw [hl]; exact hb179)⟩
          · refine wc_skip ?_
            refine (then_norm ?_)
            have hl : prioOf (agC a) (agC b) = valueOf (agC a) 12 := by unfold prioOf; rw [if_neg (fun h => by rw [show hasPrio (agC b) = false from hc165] at h; cases h)]
            have hb181 : W163.heap[b67]? = some (.cells #[.int .i64 8, .int .i64 (if (fun x => x) (valueOf (chosenL a keepCalls) 8) < (fun x => x) (valueOf (chosenL b keepCalls) 8) then (valueOf (chosenL b keepCalls) 8) else (valueOf (chosenL a keepCalls) 8)), .int .i64 9, .int .i64 (if strengthI (valueOf (chosenL a keepCalls) 9) < strengthI (valueOf (chosenL b keepCalls) 9) then (valueOf (chosenL b keepCalls) 9) else (valueOf (chosenL a keepCalls) 9)), .int .i64 10, .int .i64 (limitOf (agC a) (agC b)), .int .i64 11, .int .i64 (valueOf (chosenL a keepCalls) 11), .int .i64 12, .int .i64 (valueOf (chosenL a keepCalls) 12), .int .i64 13, .int .i64 (valueOf (chosenL a keepCalls) 13)] 46 (0, 0)) := (blk_ext (blk_ext hb148 hW158) hE164)
            have hB182 : Below W64.heap.size W64 W163 := (below_step (below_step (below_step (Below.refl _ _) hE147) hW158) hE164)
            exact ⟨⟨rfl, rfl, rfl, rfl, rfl, rfl, trivial⟩, hB182, (by rw [hl]; exact hb181)⟩
        · rintro l' W161 ⟨hsub, hE183, hb184⟩
          refine WC.sub _ hsub ?_
          refine wc_join (fun l' w' => Sub [(4, .slice none 0 0), (5, .int .i64 0), (6, .int .i64 0), (8, .int .i64 (chosenE a)), (11, .slice (some ⟨b67, 0, none⟩) 6 6)] l' ∧ Below W64.heap.size W64 w' ∧ w'.heap[b67]? = some (.cells #[.int .i64 8, .int .i64 (if (fun x => x) (valueOf (chosenL a keepCalls) 8) < (fun x => x) (valueOf (chosenL b keepCalls) 8) then (valueOf (chosenL b keepCalls) 8) else (valueOf (chosenL a keepCalls) 8)), .int .i64 9, .int .i64 (if strengthI (valueOf (chosenL a keepCalls) 9) < strengthI (valueOf (chosenL b keepCalls) 9) then (valueOf (chosenL b keepCalls) 9) else (valueOf (chosenL a keepCalls) 9)), .int .i64 10, .int .i64 (limitOf (agC a) (agC b)), .int .i64 11, .int .i64 (valueOf (chosenL a keepCalls) 11), .int .i64 12, .int .i64 (prioOf (agC a) (agC b)), .int .i64 13, .int .i64 (orderOf (agC a) (agC b))] 46 (0, 0))) ?_ ?_
          · refine wc_seq ?_
            refine wc_region ?_
            refine wl_op rfl (op_move rfl rfl ?_)
            refine wl_op rfl (op_indexAddr (b := b67) (o := 0) (j := 5) rfl rfl und22 sz46 rfl rfl (by omega) rfl ?_)
            refine wl_op rfl (op_fieldAddr rfl fa46_1 rfl ?_)
            refine wl_op rfl (op_load1 (v := .int .i64 (valueOf (chosenL a keepCalls) 13)) rfl agg3 (cell_blk hb184 rfl) rfl ?_)
            refine wl_op rfl (op_eql rfl rfl rfl ?_)
            refine (wl_done (then_norm ?_))
            refine wc_cond (b := decide (valueOf (chosenL a keepCalls) 13 = 1)) rfl (fun hc186 => ?_) (fun hc186 => ?_)
            · have hc186r := hc186
              have hc186 := of_decide_eq_true hc186
              refine wc_region ?_
              refine wl_op rfl (op_move rfl rfl ?_)
              refine wl_op rfl (op_move rfl rfl ?_)
              have hB187 : Below W24.heap.size W24 W161 := (below_step (below_step (below_step (below_step (below_step (below_step (below_step hB49 hE51) hE53) hE56) hE59) hE62) hE65) hE183)
              refine wl_op rfl (op_call ent40 rfl (value_spec (hp23.ext (flat_lifts _) hB187) (asc_chosen hvb _) (by omega) (by omega)) rfl ?_)
              rintro _ W188 ⟨rfl, hE189⟩
              refine wl_op rfl (op_indexAddr (b := b67) (o := 0) (j := 5) rfl rfl und22 sz46 rfl rfl (by omega) rfl ?_)
              refine wl_op rfl (op_fieldAddr rfl fa46_1 rfl ?_)
              have hb190 : W188.heap[b67]? = some (.cells #[.int .i64 8, .int .i64 (if (fun x => x) (valueOf (chosenL a keepCalls) 8) < (fun x => x) (valueOf (chosenL b keepCalls) 8) then (valueOf (chosenL b keepCalls) 8) else (valueOf (chosenL a keepCalls) 8)), .int .i64 9, .int .i64 (if strengthI (valueOf (chosenL a keepCalls) 9) < strengthI (valueOf (chosenL b keepCalls) 9) then (valueOf (chosenL b keepCalls) 9) else (valueOf (chosenL a keepCalls) 9)), .int .i64 10, .int .i64 (limitOf (agC a) (agC b)), .int .i64 11, .int .i64 (valueOf (chosenL a keepCalls) 11), .int .i64 12, .int .i64 (prioOf (agC a) (agC b)), .int .i64 13, .int .i64 (valueOf (chosenL a keepCalls) 13)] 46 (0, 0)) := (blk_ext hb184 hE189)
              refine wl_op rfl (op_store rfl rfl sz3 hb190 rfl rfl ?_)
              intro W191 hP192 hb193
              have hb193 : W191.heap[b67]? = some (.cells #[.int .i64 8, .int .i64 (if (fun x => x) (valueOf (chosenL a keepCalls) 8) < (fun x => x) (valueOf (chosenL b keepCalls) 8) then (valueOf (chosenL b keepCalls) 8) else (valueOf (chosenL a keepCalls) 8)), .int .i64 9, .int .i64 (if strengthI (valueOf (chosenL a keepCalls) 9) < strengthI (valueOf (chosenL b keepCalls) 9) then (valueOf (chosenL b keepCalls) 9) else (valueOf (chosenL a keepCalls) 9)), .int .i64 10, .int .i64 (limitOf (agC a) (agC b)), .int .i64 11, .int .i64 (valueOf (chosenL a keepCalls) 11), .int .i64 12, .int .i64 (prioOf (agC a) (agC b)), .int .i64 13, .int .i64 (valueOf (chosenL b keepCalls) 13)] 46 (0, 0)) := hb193
              refine (wl_done (then_norm ?_))
              have hl : orderOf (agC a) (agC b) = valueOf (agC b) 13 := by unfold orderOf; rw [if_pos hc186]
              have hB194 : Below W64.heap.size W64 W191 := (hP192.below (below_step (below_step (Below.refl _ _) hE183) hE189) (le_new (Below.refl _ _) hN68))
              exact ⟨⟨rfl, rfl, rfl, rfl, rfl, trivial⟩, hB194, (by rw [hl]; exact hb193)⟩
            · have hc186r := hc186
              have hc186 := of_decide_eq_false hc186
              refine wc_skip ?_
              refine (then_norm ?_)
              have hl : orderOf (agC a) (agC b) = valueOf (agC a) 13 := by unfold orderOf; rw [if_neg hc186]
              have hB195 : Below W64.heap.size W64 W161 := (below_step (Below.refl _ _) hE183)
              exact ⟨⟨rfl, rfl, rfl, rfl, rfl, trivial⟩, hB195, (by rw [hl]; exact hb184)⟩
          · rintro l' W185 ⟨hsub, hE196, hb197⟩
            refine WC.sub _ hsub ?_
            refine wc_seq ?_
            refine wc_seq ?_
            refine wc_region ?_
            refine wl_op rfl (op_move rfl rfl ?_)
            refine wl_op rfl (op_call ent8 rfl (Clashes_spec (rd_of_blk (enc := encP) [(⟨8, if (fun x => x) (valueOf (chosenL a keepCalls) 8) < (fun x => x) (valueOf (chosenL b keepCalls) 8) then (valueOf (chosenL b keepCalls) 8) else (valueOf (chosenL a keepCalls) 8)⟩ : Pol), (⟨9, if strengthI (valueOf (chosenL a keepCalls) 9) < strengthI (valueOf (chosenL b keepCalls) 9) then (valueOf (chosenL b keepCalls) 9) else (valueOf (chosenL a keepCalls) 9)⟩ : Pol), (⟨10, limitOf (agC a) (agC b)⟩ : Pol), (⟨11, valueOf (chosenL a keepCalls) 11⟩ : Pol), (⟨12, prioOf (agC a) (agC b)⟩ : Pol), (⟨13, orderOf (agC a) (agC b)⟩ : Pol)] hb197 (fun _ => rfl) rfl rfl rfl)) rfl ?_)
            rintro _ W202 ⟨A1198, n1199, c1200, rfl, hp201, hE203⟩
            refine wl_op rfl (op_move rfl rfl ?_)
            refine wl_op rfl (op_extract (v := .slice A1198 n1199 c1200) rfl rfl rfl ?_)
            refine wl_op rfl (op_extract (v := .int .i64 (chosenE [(⟨8, if (fun x => x) (valueOf (chosenL a keepCalls) 8) < (fun x => x) (valueOf (chosenL b keepCalls) 8) then (valueOf (chosenL b keepCalls) 8) else (valueOf (chosenL a keepCalls) 8)⟩ : Pol), (⟨9, if strengthI (valueOf (chosenL a keepCalls) 9) < strengthI (valueOf (chosenL b keepCalls) 9) then (valueOf (chosenL b keepCalls) 9) else (valueOf (chosenL a keepCalls) 9)⟩ : Pol), (⟨10, limitOf (agC a) (agC b)⟩ : Pol), (⟨11, valueOf (chosenL a keepCalls) 11⟩ : Pol), (⟨12, prioOf (agC a) (agC b)⟩ : Pol), (⟨13, orderOf (agC a) (agC b)⟩ : Pol)])) rfl rfl rfl ?_)
            refine wl_op rfl (op_assign rfl rfl ?_)
            refine wl_op rfl (op_assign rfl rfl ?_)
            refine (wl_done (then_norm ?_))
            refine WC.sub [(4, .slice none 0 0), (5, .int .i64 0), (6, .int .i64 0), (8, .int .i64 (chosenE a)), (11, .slice (some ⟨b67, 0, none⟩) 6 6), (13, .slice A1198 n1199 c1200)] ⟨rfl, rfl, rfl, rfl, rfl, rfl, trivial⟩ ?_
            refine wc_seq ?_
            refine wc_region ?_
            refine wl_op rfl (op_move rfl rfl ?_)
            refine wl_op rfl (op_len_slice rfl rfl und25 rfl rfl ?_)
            refine wl_op rfl (op_gtr rfl rfl rfl ?_)
            refine (wl_done (then_norm ?_))
            refine wc_cond (b := decide (0 < ((n1199 : Nat) : Int))) rfl (fun hc204 => ?_) (fun hc204 => ?_)
            · have hc204r := hc204
              have hc204 := of_decide_eq_true hc204
              refine wc_seq ?_
              obtain ⟨bs207, os208, hA209, hc210⟩ := hp201.flat
              have hln211 := hp201.len
              have hbd212 := hp201.bd
              obtain ⟨x_hp201_0, hx_hp201_0⟩ : ∃ x, (clashL [(⟨8, if (fun x => x) (valueOf (chosenL a keepCalls) 8) < (fun x => x) (valueOf (chosenL b keepCalls) 8) then (valueOf (chosenL b keepCalls) 8) else (valueOf (chosenL a keepCalls) 8)⟩ : Pol), (⟨9, if strengthI (valueOf (chosenL a keepCalls) 9) < strengthI (valueOf (chosenL b keepCalls) 9) then (valueOf (chosenL b keepCalls) 9) else (valueOf (chosenL a keepCalls) 9)⟩ : Pol), (⟨10, limitOf (agC a) (agC b)⟩ : Pol), (⟨11, valueOf (chosenL a keepCalls) 11⟩ : Pol), (⟨12, prioOf (agC a) (agC b)⟩ : Pol), (⟨13, orderOf (agC a) (agC b)⟩ : Pol)])[0]? = some x := ⟨_, List.getElem?_eq_getElem (by have := hp201.len; omega)⟩
              refine wc_draw mixed [(8, .int .i64 (chosenE a)), (11, .slice (some ⟨b67, 0, none⟩) 6 6), (13, .slice A1198 n1199 c1200)] ⟨rfl, rfl, rfl, trivial⟩ [fun v _ => v = .slice A1198 n1199 c1200, fun v _ => v = .pointer (some ⟨bs207, os208 + 0 * 2, none⟩), fun v _ => v = .pointer (some ⟨bs207, os208 + 0 * 2 + 0 * 1, none⟩), fun v _ => v = .int .i64 x_hp201_0.1, fun v _ => v = .slice none 0 0, fun v _ => v = .int .i64 x_hp201_0.1, fun v _ => v = .int .i64 9] [[], [0], [1], [2], [], [3], []] [4, 5, 6] rfl rfl rfl ⟨fun _ _ _ _ h => h, fun _ _ _ _ h => h, fun _ _ _ _ h => h, fun _ _ _ _ h => h, fun _ _ _ _ h => h, fun _ _ _ _ h => h, fun _ _ _ _ h => h, trivial⟩ ⟨?_, ?_, ?_, ?_, ?_, ?_, ?_, trivial⟩ ?_
              · intro W205 hW206
                refine gather_nil ?_
                refine opg_none rfl ?_
                exact op_move rfl rfl ⟨⟨_, rfl, rfl⟩, (Below.refl _ _)⟩
              · intro W205 hW206
                rintro _ rfl
                refine gather_nil ?_
                refine opg_none rfl ?_
                exact op_indexAddr (j := 0) rfl rfl und25 sz29 (hA209 (by omega)) rfl (by omega) rfl ⟨⟨_, rfl, rfl⟩, (Below.refl _ _)⟩
              · intro W205 hW206
                rintro _ rfl
                refine gather_nil ?_
                refine opg_none rfl ?_
                exact op_indexArr (j := 0) rfl rfl und29 sz3 rfl (by omega) rfl ⟨⟨_, rfl, rfl⟩, (Below.refl _ _)⟩
              · intro W205 hW206
                rintro _ rfl
                refine gather_nil ?_
                refine opg_none rfl ?_
                have hB214 : Below W202.heap.size W202 W205 := (below_step (Below.refl _ _) hW206)
                exact op_load1 (v := .int .i64 x_hp201_0.1) rfl agg3 (((hc210 0 x_hp201_0 hx_hp201_0).ext hB214).at (i := 0) rfl) rfl ⟨⟨_, rfl, rfl⟩, (Below.refl _ _)⟩
              · intro W205 hW206
                refine gather_nil ?_
                refine opg_none rfl ?_
                exact op_assign rfl rfl ⟨⟨_, rfl, rfl⟩, (Below.refl _ _)⟩
              · intro W205 hW206
                rintro _ rfl
                refine gather_nil ?_
                refine opg_none rfl ?_
                exact op_assign rfl rfl ⟨⟨_, rfl, rfl⟩, (Below.refl _ _)⟩
              · intro W205 hW206
                refine gather_nil ?_
                refine opg_none rfl ?_
                exact op_assign rfl rfl ⟨⟨_, rfl, rfl⟩, (Below.refl _ _)⟩
              intro W215 hW216
              rintro _ rfl
              rintro _ rfl
              rintro _ rfl
              refine gather_nil ?_
              refine (then_norm ?_)
              refine wc_ret ?_
              refine (then_ret ?_)
              have hB217 : Below w.heap.size w W215 := (below_step (below_step (below_step (below_step (below_step (below_step (below_step (below_step (below_step (below_step (below_step (below_step (below_step (below_step (below_step hB19 hE25) hW35) hE40) hE43) hE45) hE48) hE51) hE53) hE56) hE59) hE62) hE65) hE196) hE203) hW216)
              have hag := agree_clash hva hvb hc159 hx_hp201_0
              refine ⟨[_, _, _], ⟨rfl, rfl, rfl, trivial⟩, ⟨none, 0, 0, ?_, (by rw [hag]; exact rd_nil _ _ _), hB217⟩⟩
              rw [hag]
              rfl
            · have hc204r := hc204
              have hc204 := of_decide_eq_false hc204
              have hcl0 : (clashL (agreed (agC a) (agC b))).length = 0 := (show (clashL (agreed (agC a) (agC b))).length = _ from hp201.len).trans (by omega)
              refine wc_skip ?_
              refine (then_norm ?_)
              refine wc_seq ?_
              refine wc_region ?_
              refine wl_op rfl (op_move rfl rfl ?_)
              have hb218 : W202.heap[b67]? = some (.cells #[.int .i64 8, .int .i64 (if (fun x => x) (valueOf (chosenL a keepCalls) 8) < (fun x => x) (valueOf (chosenL b keepCalls) 8) then (valueOf (chosenL b keepCalls) 8) else (valueOf (chosenL a keepCalls) 8)), .int .i64 9, .int .i64 (if strengthI (valueOf (chosenL a keepCalls) 9) < strengthI (valueOf (chosenL b keepCalls) 9) then (valueOf (chosenL b keepCalls) 9) else (valueOf (chosenL a keepCalls) 9)), .int .i64 10, .int .i64 (limitOf (agC a) (agC b)), .int .i64 11, .int .i64 (valueOf (chosenL a keepCalls) 11), .int .i64 12, .int .i64 (prioOf (agC a) (agC b)), .int .i64 13, .int .i64 (orderOf (agC a) (agC b))] 46 (0, 0)) := (blk_ext hb197 hE203)
              refine wl_op rfl (op_call ent21 rfl (Plain_spec (rd_of_blk (enc := encP) [(⟨8, if (fun x => x) (valueOf (chosenL a keepCalls) 8) < (fun x => x) (valueOf (chosenL b keepCalls) 8) then (valueOf (chosenL b keepCalls) 8) else (valueOf (chosenL a keepCalls) 8)⟩ : Pol), (⟨9, if strengthI (valueOf (chosenL a keepCalls) 9) < strengthI (valueOf (chosenL b keepCalls) 9) then (valueOf (chosenL b keepCalls) 9) else (valueOf (chosenL a keepCalls) 9)⟩ : Pol), (⟨10, limitOf (agC a) (agC b)⟩ : Pol), (⟨11, valueOf (chosenL a keepCalls) 11⟩ : Pol), (⟨12, prioOf (agC a) (agC b)⟩ : Pol), (⟨13, orderOf (agC a) (agC b)⟩ : Pol)] hb218 (fun _ => rfl) rfl rfl rfl) (by omega)) rfl ?_)
              rintro _ W223 ⟨A1219, n1220, c1221, rfl, hp222, hE224⟩
              refine wl_op rfl (op_move rfl rfl ?_)
              refine wl_op rfl (op_extract (v := .slice A1219 n1220 c1221) rfl rfl rfl ?_)
              refine wl_op rfl (op_extract (v := .int .i64 (chosenE [(⟨8, if (fun x => x) (valueOf (chosenL a keepCalls) 8) < (fun x => x) (valueOf (chosenL b keepCalls) 8) then (valueOf (chosenL b keepCalls) 8) else (valueOf (chosenL a keepCalls) 8)⟩ : Pol), (⟨9, if strengthI (valueOf (chosenL a keepCalls) 9) < strengthI (valueOf (chosenL b keepCalls) 9) then (valueOf (chosenL b keepCalls) 9) else (valueOf (chosenL a keepCalls) 9)⟩ : Pol), (⟨10, limitOf (agC a) (agC b)⟩ : Pol), (⟨11, valueOf (chosenL a keepCalls) 11⟩ : Pol), (⟨12, prioOf (agC a) (agC b)⟩ : Pol), (⟨13, orderOf (agC a) (agC b)⟩ : Pol)])) rfl rfl rfl ?_)
              refine wl_op rfl (op_assign rfl rfl ?_)
              refine wl_op rfl (op_assign rfl rfl ?_)
              refine (wl_done (then_norm ?_))
              refine WC.sub [(4, .slice none 0 0), (5, .int .i64 0), (6, .int .i64 0), (8, .int .i64 (chosenE [(⟨8, if (fun x => x) (valueOf (chosenL a keepCalls) 8) < (fun x => x) (valueOf (chosenL b keepCalls) 8) then (valueOf (chosenL b keepCalls) 8) else (valueOf (chosenL a keepCalls) 8)⟩ : Pol), (⟨9, if strengthI (valueOf (chosenL a keepCalls) 9) < strengthI (valueOf (chosenL b keepCalls) 9) then (valueOf (chosenL b keepCalls) 9) else (valueOf (chosenL a keepCalls) 9)⟩ : Pol), (⟨10, limitOf (agC a) (agC b)⟩ : Pol), (⟨11, valueOf (chosenL a keepCalls) 11⟩ : Pol), (⟨12, prioOf (agC a) (agC b)⟩ : Pol), (⟨13, orderOf (agC a) (agC b)⟩ : Pol)])), (15, .slice A1219 n1220 c1221)] ⟨rfl, rfl, rfl, rfl, rfl, trivial⟩ ?_
              refine wc_seq ?_
              refine wc_region ?_
              refine wl_op rfl (op_move rfl rfl ?_)
              refine wl_op rfl (op_move rfl rfl ?_)
              refine wl_op rfl (op_assign rfl rfl ?_)
              refine wl_op rfl (op_assign rfl rfl ?_)
              refine wl_op rfl (op_assign rfl rfl ?_)
              refine (wl_done (then_norm ?_))
              refine wc_ret ?_
              have hB225 : Below w.heap.size w W223 := (below_step (below_step (below_step (below_step (below_step (below_step (below_step (below_step (below_step (below_step (below_step (below_step (below_step (below_step (below_step hB19 hE25) hW35) hE40) hE43) hE45) hE48) hE51) hE53) hE56) hE59) hE62) hE65) hE196) hE203) hE224)
              have hag := agree_fine hva hvb hc159 hcl0
              refine ⟨[_, _, _], ⟨rfl, rfl, rfl, trivial⟩, ⟨A1219, n1220, c1221, ?_, (by rw [hag]; exact hp222), hB225⟩⟩
              rw [hag]
              rfl

end Go.Eng
