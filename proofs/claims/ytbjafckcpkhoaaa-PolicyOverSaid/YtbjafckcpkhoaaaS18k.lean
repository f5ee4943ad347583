/- Lemmas for a law of the seat: what functions of the program do, each stated as a contract of its own (module S18k). -/
import Derived.Test.YtbjafckcpkhoaaaS18j
import Derived.Test.YtbjafckcpkhoaaaEngF
import Derived.Test.YtbjafckcpkhoaaaChecked
set_option linter.unusedVariables false
set_option maxRecDepth 100000
namespace Go.Eng
open Go.RowKit Go.Shelf Go.Proofs Pol

theorem und33 : Und Try.prog 33 (.slice 22) := by unfold Und; kernel_rfl
theorem sz22 : Sz Try.prog 22 1 := fun w => by kernel_rfl
theorem agg22 : AggT Try.prog 22 false := fun w => by kernel_rfl
theorem eq46 {a0 b0 : Int} {a1 b1 : Int} : EqT Try.prog 46 [.int .i64 a0, .int .i64 a1] [.int .i64 b0, .int .i64 b1] := ⟨by kernel_rfl, fun w => run_eqFlat (fs := (Try.prog.fieldsOf 46).toList) (by kernel_rfl) (by kernel_rfl) (by kernel_rfl) (by kernel_rfl)⟩

structure Hdr where
  A : Option Addr
  n : Nat
  c : Nat
abbrev encH (h : Hdr) : List Value := [.slice h.A h.n h.c]
abbrev RdH (w : World) (A : Option Addr) (n : Nat) (xs : List Hdr) : Prop := Rd (Flat encH) 1 w A n xs
def shortH (l : List Hdr) : Bool := l.all (fun h => !decide (200 < (h.n : Int)))
abbrev encI (k : Int) : List Value := [.int .i64 k]
abbrev RdI (w : World) (A : Option Addr) (n : Nat) (xs : List Int) : Prop := Rd (Flat encI) 1 w A n xs
theorem all_no {α : Type} {l : List α} {f : α → Bool} {i : Nat} {x : α} (h : l[i]? = some x) (hf : f x = false) : l.all f = false := by
  rw [Bool.eq_false_iff]; intro ha
  have := List.all_eq_true.1 ha x (List.mem_of_getElem? h)
  rw [hf] at this; cases this
theorem all_yes {α : Type} {l : List α} {f : α → Bool} (h : ∀ (i : Nat) (x : α), i < l.length → l[i]? = some x → f x = true) : l.all f = true := by
  rw [List.all_eq_true]; intro x hx
  obtain ⟨i, hi, rfl⟩ := List.getElem_of_mem hx
  exact h i _ hi (List.getElem?_eq_getElem hi)
theorem len_iff {α : Type} {a b : List α} (h : a = b) : a.length = b.length := by rw [h]
theorem getE_ne {α : Type} {a b : List α} {k : Nat} {x y : α} (hx : a[k]? = some x) (hy : b[k]? = some y) (h : ¬ x = y) : ¬ a = b := by
  rintro rfl; rw [hx] at hy; cases hy; exact h rfl
theorem all_succ_eq {α : Type} {a b : List α} {k : Nat} {x y : α} (h : ∀ i, i < k → a[i]? = b[i]?) (hx : a[k]? = some x) (hy : b[k]? = some y) (e : x = y) : ∀ i, i < k + 1 → a[i]? = b[i]? := by
  intro i hi
  rcases Nat.lt_or_ge i k with h1 | h1
  · exact h i h1
  · obtain rfl : i = k := by omega
    rw [hx, hy, e]
theorem eq_of_all {α : Type} {a b : List α} (hl : a.length = b.length) (h : ∀ i, i < a.length → a[i]? = b[i]?) : a = b := by
  apply List.ext_getElem? ; intro i
  rcases Nat.lt_or_ge i a.length with h1 | h1
  · exact h i h1
  · rw [List.getElem?_eq_none h1, List.getElem?_eq_none (by omega)]
def getV (s : List Pol) (k : Int) : Int := if validSet s = true ∧ isB k = true then valueOf s k else 0
def getE (s : List Pol) (k : Int) : Int := if validSet s = true then (if isB k = true then 0 else 10) else 1
theorem pol_ext {x y : Pol} (h : ((decide (x.kind = y.kind)) && (decide (x.val = y.val))) = true) : x = y := by
  cases x; cases y; simp at h; simp [h]
theorem pol_ne {x y : Pol} (h : ((decide (x.kind = y.kind)) && (decide (x.val = y.val))) = false) : ¬ x = y := by
  rintro rfl; simp at h

theorem short_spec {w : World} {A : Option Addr} {n c : Nat} {l : List Hdr} (hs : RdH w A n l) : Ret Try.prog 6 #[.slice A n c] w (fun v w' => v = .bool (shortH l) ∧ Below w.heap.size w w') := by
  obtain ⟨bs1, os2, hA3, hc4⟩ := hs.flat
  have hln5 := hs.len
  have hbd6 := hs.bd
  have hlen_l := hs.len
  refine ret_of (args := [.slice A n c]) Try.func6 rfl Try.ntmps6 rfl (rs := [.tmp 2]) rfl ?_
  refine wc_seq ?_
  refine wc_region ?_
  refine wl_op rfl (op_assign rfl rfl ?_)
  refine (wl_done (then_norm ?_))
  refine wc_seq ?_
  refine wc_seq ?_
  refine wc_region ?_
  refine wl_op rfl (op_move rfl rfl ?_)
  refine wl_op rfl (op_len_slice rfl rfl und33 rfl rfl ?_)
  refine wl_op rfl (op_move rfl rfl ?_)
  refine (wl_done (then_norm ?_))
  refine wc_block ?_
  refine wc_loop (σ := Nat × World) (fun st_ => [(2, .bool false), (5, .slice A n c), (6, .int .i64 ((n : Nat) : Int)), (7, .int .i64 (st_.1 : Int))]) (fun st_ => st_.2) (fun st_ => (st_.1 ≤ n) ∧ (∀ (i : Nat) (x : Hdr), i < st_.1 → l[i]? = some x → (!decide (200 < (x.n : Int))) = true) ∧ (Below w.heap.size w st_.2)) (fun st_ => n - st_.1) (0, w) ⟨(by first | omega | (dsimp only; omega)), (fun i x hi => absurd hi (by omega)), (Below.refl _ _)⟩ ⟨rfl, rfl, rfl, rfl, trivial⟩ rfl ?_
  rintro ⟨k, W7⟩ ⟨hk, hall, hE8⟩
  dsimp only at hk hall hE8
  refine wc_at [(2, .bool false), (5, .slice A n c), (6, .int .i64 ((n : Nat) : Int)), (7, .int .i64 (k : Int))] W7 ⟨rfl, rfl, rfl, rfl, trivial⟩ rfl ?_
  refine wc_seq ?_
  refine wc_region ?_
  refine wl_op rfl (op_lss rfl rfl rfl ?_)
  refine (wl_done (then_norm ?_))
  refine wc_seq ?_
  refine wc_cond (b := decide ((k : Int) < ((n : Nat) : Int))) rfl (fun hc9 => ?_) (fun hc9 => ?_)
  · have hc9r := hc9
    have hc9 := of_decide_eq_true hc9
    refine wc_skip ?_
    refine (then_norm ?_)
    refine wc_seq ?_
    refine wc_block ?_
    refine wc_seq ?_
    refine wc_region ?_
    obtain ⟨x_l_k, hx_l_k⟩ : ∃ x, l[k]? = some x := ⟨_, List.getElem?_eq_getElem (by have := hs.len; omega)⟩
    refine wl_op rfl (op_indexAddr (j := k) rfl rfl und33 sz22 (hA3 (by omega)) rfl (by omega) rfl ?_)
    have hB10 : Below w.heap.size w W7 := (below_step (Below.refl _ _) hE8)
    refine wl_op rfl (op_load1 (v := .slice x_l_k.A x_l_k.n x_l_k.c) rfl agg22 (((hc4 k x_l_k hx_l_k).ext hB10).at (i := 0) rfl) rfl ?_)
    refine wl_op rfl (op_assign rfl rfl ?_)
    refine (wl_done (then_norm ?_))
    refine wc_seq ?_
    refine wc_region ?_
    refine wl_op rfl (op_move rfl rfl ?_)
    refine wl_op rfl (op_len_slice rfl rfl und22 rfl rfl ?_)
    refine wl_op rfl (op_gtr rfl rfl rfl ?_)
    refine (wl_done (then_norm ?_))
    refine wc_cond (b := decide (200 < ((x_l_k.n : Nat) : Int))) rfl (fun hc11 => ?_) (fun hc11 => ?_)
    · have hc11r := hc11
      have hc11 := of_decide_eq_true hc11
      refine wc_seq ?_
      refine wc_region ?_
      refine wl_op rfl (op_assign rfl rfl ?_)
      refine (wl_done (then_norm ?_))
      refine wc_ret ?_
      refine (block_ret (then_ret (then_ret (block_ret (then_ret ?_)))))
      refine ⟨[_], ⟨rfl, trivial⟩, ⟨?_, hB10⟩⟩
      exact congrArg Value.bool (all_no (f := fun h : Hdr => !decide (200 < (h.n : Int))) hx_l_k (by rw [decide_eq_true hc11]; rfl)).symm
    · have hc11r := hc11
      have hc11 := of_decide_eq_false hc11
      refine wc_skip ?_
      refine (block_norm (then_norm ?_))
      refine wc_region ?_
      refine wl_op rfl (op_add (r := ((k + 1 : Nat) : Int)) rfl rfl (by omega) (by omega) rfl ?_)
      refine wl_op rfl (op_move rfl rfl ?_)
      refine (wl_done (then_norm ?_))
      refine ⟨((k + 1), W7), ⟨(by first | omega | (dsimp only; omega)), (fun i x hi hx => by rcases Nat.lt_or_ge i k with h | h; exact hall i x h hx; have e : i = k := (by dsimp only at hi; omega); subst e; rw [hx_l_k] at hx; cases hx; rw [decide_eq_false hc11]; rfl), hB10⟩, ?_, ⟨rfl, rfl, rfl, rfl, trivial⟩, rfl⟩
      · dsimp only; omega
  · have hc9r := hc9
    have hc9 := of_decide_eq_false hc9
    refine wc_exit ?_
    refine (then_exit (then_exit (block_here (then_norm ?_))))
    refine wc_seq ?_
    refine wc_region ?_
    refine wl_op rfl (op_assign rfl rfl ?_)
    refine (wl_done (then_norm ?_))
    refine wc_ret ?_
    have hB12 : Below w.heap.size w W7 := (below_step (Below.refl _ _) hE8)
    refine ⟨[_], ⟨rfl, trivial⟩, ⟨?_, hB12⟩⟩
    exact congrArg Value.bool (all_yes (f := fun h : Hdr => !decide (200 < (h.n : Int))) fun i x hi => hall i x (by omega)).symm

theorem same_spec {w : World} {A : Option Addr} {n c : Nat} {a : List Pol} {A2 : Option Addr} {n2 c2 : Nat} {b : List Pol} (hs : RdP w A n a) (hs2 : RdP w A2 n2 b) : Ret Try.prog 12 #[.slice A n c, .slice A2 n2 c2] w (fun v w' => v = .bool (decide (a = b)) ∧ Below w.heap.size w w') := by
  obtain ⟨bs1, os2, hA3, hc4⟩ := hs.flat
  have hln5 := hs.len
  have hbd6 := hs.bd
  have hlen_a := hs.len
  obtain ⟨bs7, os8, hA9, hc10⟩ := hs2.flat
  have hln11 := hs2.len
  have hbd12 := hs2.bd
  have hlen_b := hs2.len
  refine ret_of (args := [.slice A n c, .slice A2 n2 c2]) Try.func12 rfl Try.ntmps12 rfl (rs := [.tmp 4]) rfl ?_
  refine wc_seq ?_
  refine wc_region ?_
  refine wl_op rfl (op_assign rfl rfl ?_)
  refine (wl_done (then_norm ?_))
  refine wc_seq ?_
  refine wc_seq ?_
  refine wc_region ?_
  refine wl_op rfl (op_move rfl rfl ?_)
  refine wl_op rfl (op_len_slice rfl rfl und22 rfl rfl ?_)
  refine wl_op rfl (op_move rfl rfl ?_)
  refine wl_op rfl (op_len_slice rfl rfl und22 rfl rfl ?_)
  refine wl_op rfl (op_neq rfl rfl rfl ?_)
  refine (wl_done (then_norm ?_))
  refine wc_cond (b := !decide (((n : Nat) : Int) = ((n2 : Nat) : Int))) rfl (fun hc13 => ?_) (fun hc13 => ?_)
  · have hc13r := hc13
    have hc13 := of_decide_eq_false (not_t hc13)
    refine wc_seq ?_
    refine wc_region ?_
    refine wl_op rfl (op_assign rfl rfl ?_)
    refine (wl_done (then_norm ?_))
    refine wc_ret ?_
    refine (then_ret ?_)
    refine ⟨[_], ⟨rfl, trivial⟩, ⟨?_, (Below.refl _ _)⟩⟩
    exact congrArg Value.bool (decide_eq_false (fun h => by have := len_iff h; omega)).symm
  · have hc13r := hc13
    have hc13 := of_decide_eq_true (not_f hc13)
    refine wc_skip ?_
    refine (then_norm ?_)
    refine wc_seq ?_
    refine wc_seq ?_
    refine wc_region ?_
    refine wl_op rfl (op_move rfl rfl ?_)
    refine wl_op rfl (op_len_slice rfl rfl und22 rfl rfl ?_)
    refine wl_op rfl (op_move rfl rfl ?_)
    refine (wl_done (then_norm ?_))
    refine WC.sub [(0, .slice A n c), (1, .slice A2 n2 c2), (4, .bool false), (12, .int .i64 ((n : Nat) : Int)), (13, .int .i64 0)] ⟨rfl, rfl, rfl, rfl, rfl, trivial⟩ ?_
    refine wc_block ?_
    refine wc_loop (σ := Nat × World) (fun st_ => [(0, .slice A n c), (1, .slice A2 n2 c2), (4, .bool false), (12, .int .i64 ((n : Nat) : Int)), (13, .int .i64 (st_.1 : Int))]) (fun st_ => st_.2) (fun st_ => (st_.1 ≤ n) ∧ (∀ i, i < st_.1 → a[i]? = b[i]?) ∧ (Below w.heap.size w st_.2)) (fun st_ => n - st_.1) (0, w) ⟨(by first | omega | (dsimp only; omega)), (fun i hi => absurd hi (by omega)), (Below.refl _ _)⟩ ⟨rfl, rfl, rfl, rfl, rfl, trivial⟩ rfl ?_
    rintro ⟨k, W14⟩ ⟨hk, hall, hE15⟩
    dsimp only at hk hall hE15
    refine wc_at [(0, .slice A n c), (1, .slice A2 n2 c2), (4, .bool false), (12, .int .i64 ((n : Nat) : Int)), (13, .int .i64 (k : Int))] W14 ⟨rfl, rfl, rfl, rfl, rfl, trivial⟩ rfl ?_
    refine wc_seq ?_
    refine wc_region ?_
    refine wl_op rfl (op_lss rfl rfl rfl ?_)
    refine (wl_done (then_norm ?_))
    refine wc_seq ?_
    refine wc_cond (b := decide ((k : Int) < ((n : Nat) : Int))) rfl (fun hc16 => ?_) (fun hc16 => ?_)
    · have hc16r := hc16
      have hc16 := of_decide_eq_true hc16
      refine wc_skip ?_
      refine (then_norm ?_)
      refine wc_seq ?_
      refine wc_block ?_
      refine wc_seq ?_
      refine wc_region ?_
      refine wl_op rfl (op_move rfl rfl ?_)
      refine wl_op rfl (op_assign rfl rfl ?_)
      refine (wl_done (then_norm ?_))
      refine wc_seq ?_
      obtain ⟨x_a_k, hx_a_k⟩ : ∃ x, a[k]? = some x := ⟨_, List.getElem?_eq_getElem (by have := hs.len; omega)⟩
      obtain ⟨x_b_k, hx_b_k⟩ : ∃ x, b[k]? = some x := ⟨_, List.getElem?_eq_getElem (by have := hs2.len; omega)⟩
      refine wc_draw mixed [(0, .slice A n c), (1, .slice A2 n2 c2), (4, .bool false), (12, .int .i64 ((n : Nat) : Int)), (13, .int .i64 (k : Int)), (14, .bool (decide ((k : Int) < ((n : Nat) : Int)))), (15, .int .i64 (k : Int)), (5, .int .i64 (k : Int))] ⟨rfl, rfl, rfl, rfl, rfl, rfl, rfl, rfl, trivial⟩ [fun v _ => v = .slice A n c, fun v _ => v = .int .i64 (k : Int), fun v _ => v = .pointer (some ⟨bs1, os2 + k * 2, none⟩), fun v _ => v = .agg #[.int .i64 x_a_k.kind, .int .i64 x_a_k.val], fun v _ => v = .slice A2 n2 c2, fun v _ => v = .int .i64 (k : Int), fun v _ => v = .pointer (some ⟨bs7, os8 + k * 2, none⟩), fun v _ => v = .agg #[.int .i64 x_b_k.kind, .int .i64 x_b_k.val], fun v _ => v = .bool (!((decide (x_a_k.kind = x_b_k.kind)) && (decide (x_a_k.val = x_b_k.val))))] [[], [], [0, 1], [2], [], [], [4, 5], [6], [3, 7]] [0, 1, 2, 3, 4, 5, 6, 7, 8] rfl rfl rfl ⟨fun _ _ _ _ h => h, fun _ _ _ _ h => h, fun _ _ _ _ h => h, fun _ _ _ _ h => h, fun _ _ _ _ h => h, fun _ _ _ _ h => h, fun _ _ _ _ h => h, fun _ _ _ _ h => h, fun _ _ _ _ h => h, trivial⟩ ⟨?_, ?_, ?_, ?_, ?_, ?_, ?_, ?_, ?_, trivial⟩ ?_
      · intro W17 hW18
        refine gather_nil ?_
        refine opg_none rfl ?_
        exact op_move rfl rfl ⟨told rfl rfl rfl, (Below.refl _ _)⟩
      · intro W17 hW18
        refine gather_nil ?_
        refine opg_none rfl ?_
        exact op_move rfl rfl ⟨told rfl rfl rfl, (Below.refl _ _)⟩
      · intro W17 hW18
        rintro _ rfl
        rintro _ rfl
        refine gather_nil ?_
        refine opg_none rfl ?_
        exact op_indexAddr (j := k) rfl rfl und22 sz46 (hA3 (by omega)) rfl (by omega) rfl ⟨told rfl rfl rfl, (Below.refl _ _)⟩
      · intro W17 hW18
        rintro _ rfl
        refine gather_nil ?_
        refine opg_none rfl ?_
        have hB21 : Below w.heap.size w W17 := (below_step (below_step (Below.refl _ _) hE15) hW18)
        exact op_loadN (vs := [.int .i64 x_a_k.kind, .int .i64 x_a_k.val]) rfl agg46 sz46 rfl ((hc4 k x_a_k hx_a_k).ext hB21) rfl ⟨told rfl rfl rfl, (Below.refl _ _)⟩
      · intro W17 hW18
        refine gather_nil ?_
        refine opg_none rfl ?_
        exact op_move rfl rfl ⟨told rfl rfl rfl, (Below.refl _ _)⟩
      · intro W17 hW18
        refine gather_nil ?_
        refine opg_none rfl ?_
        exact op_move rfl rfl ⟨told rfl rfl rfl, (Below.refl _ _)⟩
      · intro W17 hW18
        rintro _ rfl
        rintro _ rfl
        refine gather_nil ?_
        refine opg_none rfl ?_
        exact op_indexAddr (j := k) rfl rfl und22 sz46 (hA9 (by omega)) rfl (by omega) rfl ⟨told rfl rfl rfl, (Below.refl _ _)⟩
      · intro W17 hW18
        rintro _ rfl
        refine gather_nil ?_
        refine opg_none rfl ?_
        have hB22 : Below w.heap.size w W17 := (below_step (below_step (Below.refl _ _) hE15) hW18)
        exact op_loadN (vs := [.int .i64 x_b_k.kind, .int .i64 x_b_k.val]) rfl agg46 sz46 rfl ((hc10 k x_b_k hx_b_k).ext hB22) rfl ⟨told rfl rfl rfl, (Below.refl _ _)⟩
      · intro W17 hW18
        rintro _ rfl
        rintro _ rfl
        refine gather_nil ?_
        refine opg_none rfl ?_
        exact op_neqA (X := [.int .i64 x_a_k.kind, .int .i64 x_a_k.val]) (Y := [.int .i64 x_b_k.kind, .int .i64 x_b_k.val]) (b := (decide (x_a_k.kind = x_b_k.kind)) && (decide (x_a_k.val = x_b_k.val))) rfl rfl eq46 rfl rfl ⟨told rfl rfl rfl, (Below.refl _ _)⟩
      intro W23 hW24
      rintro _ rfl
      rintro _ rfl
      rintro _ rfl
      rintro _ rfl
      rintro _ rfl
      rintro _ rfl
      rintro _ rfl
      rintro _ rfl
      rintro _ rfl
      refine gather_nil ?_
      refine (then_norm ?_)
      refine wc_cond (b := !((decide (x_a_k.kind = x_b_k.kind)) && (decide (x_a_k.val = x_b_k.val)))) rfl (fun hc25 => ?_) (fun hc25 => ?_)
      · refine wc_seq ?_
        refine wc_region ?_
        refine wl_op rfl (op_assign rfl rfl ?_)
        refine (wl_done (then_norm ?_))
        refine wc_ret ?_
        refine (block_ret (then_ret (then_ret (block_ret (then_ret ?_)))))
        have hB26 : Below w.heap.size w W23 := (below_step (below_step (Below.refl _ _) hE15) hW24)
        refine ⟨[_], ⟨rfl, trivial⟩, ⟨?_, hB26⟩⟩
        exact congrArg Value.bool (decide_eq_false (getE_ne hx_a_k hx_b_k (pol_ne (not_t hc25)))).symm
      · refine wc_skip ?_
        refine (block_norm (then_norm ?_))
        refine wc_region ?_
        refine wl_op rfl (op_add (r := ((k + 1 : Nat) : Int)) rfl rfl (by omega) (by omega) rfl ?_)
        refine wl_op rfl (op_move rfl rfl ?_)
        refine (wl_done (then_norm ?_))
        have hB27 : Below w.heap.size w W23 := (below_step (below_step (Below.refl _ _) hE15) hW24)
        refine ⟨((k + 1), W23), ⟨(by first | omega | (dsimp only; omega)), (all_succ_eq hall hx_a_k hx_b_k (pol_ext (not_f hc25))), hB27⟩, ?_, ⟨rfl, rfl, rfl, rfl, rfl, trivial⟩, rfl⟩
        · dsimp only; omega
    · have hc16r := hc16
      have hc16 := of_decide_eq_false hc16
      refine wc_exit ?_
      refine (then_exit (then_exit (block_here (then_norm ?_))))
      refine wc_seq ?_
      refine wc_region ?_
      refine wl_op rfl (op_assign rfl rfl ?_)
      refine (wl_done (then_norm ?_))
      refine wc_ret ?_
      have hB28 : Below w.heap.size w W14 := (below_step (Below.refl _ _) hE15)
      refine ⟨[_], ⟨rfl, trivial⟩, ⟨?_, hB28⟩⟩
      exact congrArg Value.bool (decide_eq_true (eq_of_all (by omega) (fun i hi => hall i (by omega)))).symm

theorem Get_spec {w : World} {A : Option Addr} {n c : Nat} {s : List Pol} {k : Int} (hs : RdP w A n s) : Ret Try.prog 13 #[.slice A n c, .int .i64 k] w (fun v w' => v = .tuple #[.int .i64 (getV s k), .int .i64 (getE s k)] ∧ Below w.heap.size w w') := by
  obtain ⟨bs1, os2, hA3, hc4⟩ := hs.flat
  have hln5 := hs.len
  have hbd6 := hs.bd
  have hlen_s := hs.len
  refine ret_of (args := [.slice A n c, .int .i64 k]) Try.func13 rfl Try.ntmps13 rfl (rs := [.tmp 4, .tmp 5]) rfl ?_
  refine wc_seq ?_
  refine wc_region ?_
  refine wl_op rfl (op_assign rfl rfl ?_)
  refine wl_op rfl (op_assign rfl rfl ?_)
  refine (wl_done (then_norm ?_))
  refine wc_seq ?_
  refine wc_block ?_
  refine wc_seq ?_
  refine wc_region ?_
  refine wl_op rfl (op_move rfl rfl ?_)
  refine wl_op rfl (op_call ent27 rfl (ValidSet_spec hs) rfl ?_)
  rintro _ W7 ⟨rfl, hE8⟩
  refine wl_op rfl (op_not rfl rfl ?_)
  refine wl_op rfl (op_assign rfl rfl ?_)
  refine (wl_done (then_norm ?_))
  refine wc_cond (b := !(validSet s)) rfl (fun hc9 => ?_) (fun hc9 => ?_)
  · have hv : validSet s = false := by simpa using hc9
    refine wc_seq ?_
    refine wc_region ?_
    refine wl_op rfl (op_assign rfl rfl ?_)
    refine wl_op rfl (op_assign rfl rfl ?_)
    refine (wl_done (then_norm ?_))
    refine wc_ret ?_
    refine (block_ret (then_ret ?_))
    have hB10 : Below w.heap.size w W7 := (below_step (Below.refl _ _) hE8)
    refine ⟨[_, _], ⟨rfl, rfl, trivial⟩, ⟨?_, hB10⟩⟩
    rw [getV, getE, if_neg (fun h => by rw [hv] at h; cases h.1), if_neg (by rw [hv]; decide)]
    rfl
  · have hv : validSet s = true := by simpa using hc9
    refine wc_seq ?_
    refine wc_region ?_
    refine wl_op rfl (op_move rfl rfl ?_)
    refine wl_op rfl (op_call ent52 rfl (is_spec) rfl ?_)
    rintro _ W11 ⟨rfl, hE12⟩
    refine wl_op rfl (op_not rfl rfl ?_)
    refine wl_op rfl (op_assign rfl rfl ?_)
    refine (wl_done (then_norm ?_))
    refine WC.sub [(0, .slice A n c), (1, .int .i64 k), (4, .int .i64 0), (5, .int .i64 0), (10, .bool (!(isB k)))] ⟨rfl, rfl, rfl, rfl, rfl, trivial⟩ ?_
    refine wc_cond (b := !(isB k)) rfl (fun hc13 => ?_) (fun hc13 => ?_)
    · have hb : isB k = false := by simpa using hc13
      refine wc_seq ?_
      refine wc_region ?_
      refine wl_op rfl (op_assign rfl rfl ?_)
      refine wl_op rfl (op_assign rfl rfl ?_)
      refine (wl_done (then_norm ?_))
      refine wc_ret ?_
      refine (block_ret (then_ret ?_))
      have hB14 : Below w.heap.size w W11 := (below_step (below_step (Below.refl _ _) hE8) hE12)
      refine ⟨[_, _], ⟨rfl, rfl, trivial⟩, ⟨?_, hB14⟩⟩
      rw [getV, getE, if_neg (fun h => by rw [hb] at h; cases h.2), if_pos hv, if_neg (by rw [hb]; decide)]
      rfl
    · have hb : isB k = true := by simpa using hc13
      refine wc_skip ?_
      refine (block_norm (then_norm ?_))
      refine wc_seq ?_
      refine wc_region ?_
      refine wl_op rfl (op_move rfl rfl ?_)
      refine wl_op rfl (op_move rfl rfl ?_)
      have hB15 : Below w.heap.size w W11 := (below_step (below_step (Below.refl _ _) hE8) hE12)
      refine wl_op rfl (op_call ent40 rfl (value_spec (hs.ext (flat_lifts _) hB15) (valid_asc hv) (isB_iff.1 hb).1 (isB_iff.1 hb).2) rfl ?_)
      rintro _ W16 ⟨rfl, hE17⟩
      refine wl_op rfl (op_assign rfl rfl ?_)
      refine wl_op rfl (op_assign rfl rfl ?_)
      refine (wl_done (then_norm ?_))
      refine WC.sub [(4, .int .i64 (valueOf s k)), (5, .int .i64 0)] ⟨rfl, rfl, trivial⟩ ?_
      refine wc_ret ?_
      have hB18 : Below w.heap.size w W16 := (below_step hB15 hE17)
      refine ⟨[_, _], ⟨rfl, rfl, trivial⟩, ⟨?_, hB18⟩⟩
      rw [getV, getE, if_pos ⟨hv, hb⟩, if_pos hv, if_pos hb]
      rfl

end Go.Eng
