/- Lemmas for a law of the seat: what functions of the program do, each stated as a contract of its own (module S18c). -/
import Derived.Test.YtbjafckcpkhoaaaS18b
import Derived.Test.YtbjafckcpkhoaaaChecked
set_option linter.unusedVariables false
set_option maxRecDepth 100000
namespace Go.Eng
open Go.RowKit Go.Shelf Go.Proofs Pol

theorem ent27 : Enters Try.prog 27 := enters_of Try.func27 (by kernel_rfl) rfl
theorem app22 : AppT Try.prog 22 46 2 16 := appT_of (z := .agg #[.int .i64 0, .int .i64 0]) (by kernel_rfl) (by kernel_rfl) rfl rfl
theorem ent58 : Enters Try.prog 58 := enters_of Try.func58 (by kernel_rfl) rfl
theorem ent57 : Enters Try.prog 57 := enters_of Try.func57 (by kernel_rfl) rfl
theorem ent69 : Enters Try.prog 69 := enters_of Try.func69 (by kernel_rfl) rfl

def chosenL (s : List Pol) (keep : Pol → Bool) : List Pol := if validSet s = true then s.filter keep else []
def chosenE (s : List Pol) : Int := if validSet s = true then 0 else 1
theorem take_filter_t {α : Type} {s : List α} {k : Nat} {x : α} {f : α → Bool} (hx : s[k]? = some x) (h : f x = true) : (s.take (k + 1)).filter f = (s.take k).filter f ++ [x] := by
  have hk := (List.getElem?_eq_some_iff.1 hx)
  obtain ⟨hk, rfl⟩ := hk
  rw [List.take_succ_eq_append_getElem hk, List.filter_append]; simp [h]
theorem take_filter_f {α : Type} {s : List α} {k : Nat} {x : α} {f : α → Bool} (hx : s[k]? = some x) (h : f x = false) : (s.take (k + 1)).filter f = (s.take k).filter f := by
  have hk := (List.getElem?_eq_some_iff.1 hx)
  obtain ⟨hk, rfl⟩ := hk
  rw [List.take_succ_eq_append_getElem hk, List.filter_append]; simp [h]
theorem filter_take_le {α : Type} (s : List α) (k : Nat) (f : α → Bool) : ((s.take k).filter f).length ≤ k := Nat.le_trans (List.length_filter_le _ _) (List.length_take_le _ _)

theorem chosen_spec {w : World} {A : Option Addr} {n c : Nat} {s : List Pol} {g : Nat} {caps : Array Value} {keep : Pol → Bool} (hs : RdP w A n s) (hn : n ≤ 1000) (hent : Enters Try.prog g) (hk : ∀ W a b, validSet s = true → (⟨a, b⟩ : Pol) ∈ s → Below w.heap.size w W → Ret Try.prog g (#[.agg #[.int .i64 a, .int .i64 b]] ++ caps) W (fun v W' => v = .bool (keep ⟨a, b⟩) ∧ Below W.heap.size W W')) : Ret Try.prog 57 #[.slice A n c, .func (.func g) #[] caps] w (fun v w' => ∃ (A1 : Option Addr) (n1 c1 : Nat), v = .tuple #[.slice A1 n1 c1, .int .i64 (chosenE s)] ∧ RdP w' A1 n1 (chosenL s keep) ∧ Below w.heap.size w w') := by
  obtain ⟨bs1, os2, hA3, hc4⟩ := hs.flat
  have hln5 := hs.len
  have hbd6 := hs.bd
  have hlen_s := hs.len
  refine ret_of (args := [.slice A n c, .func (.func g) #[] caps]) Try.func57 rfl Try.ntmps57 rfl (rs := [.tmp 4, .tmp 5]) rfl ?_
  refine wc_seq ?_
  refine wc_region ?_
  refine wl_op rfl (op_assign rfl rfl ?_)
  refine wl_op rfl (op_assign rfl rfl ?_)
  refine (wl_done (then_norm ?_))
  refine wc_seq ?_
  refine wc_seq ?_
  refine wc_region ?_
  refine wl_op rfl (op_move rfl rfl ?_)
  refine wl_op rfl (op_call ent27 rfl (ValidSet_spec hs) rfl ?_)
  rintro _ W7 ⟨rfl, hE8⟩
  refine wl_op rfl (op_not rfl rfl ?_)
  refine (wl_done (then_norm ?_))
  refine wc_cond (b := !(validSet s)) rfl (fun hc9 => ?_) (fun hc9 => ?_)
  · have hv : validSet s = false := by simpa using hc9
    refine wc_seq ?_
    refine wc_region ?_
    refine wl_op rfl (op_assign rfl rfl ?_)
    refine wl_op rfl (op_assign rfl rfl ?_)
    refine (wl_done (then_norm ?_))
    refine wc_ret ?_
    refine (then_ret ?_)
    have hB10 : Below w.heap.size w W7 := (below_step (Below.refl _ _) hE8)
    refine ⟨[_, _], ⟨rfl, rfl, trivial⟩, ⟨none, 0, 0, ?_, (by rw [chosenL, if_neg (by rw [hv]; decide)]; exact rd_nil _ _ _), hB10⟩⟩
    rw [chosenE, if_neg (by rw [hv]; decide)]
    rfl
  · have hv : validSet s = true := by simpa using hc9
    refine wc_skip ?_
    refine (then_norm ?_)
    refine wc_seq ?_
    refine wc_region ?_
    refine wl_op rfl (op_assign rfl rfl ?_)
    refine (wl_done (then_norm ?_))
    refine wc_seq ?_
    refine wc_seq ?_
    refine wc_region ?_
    refine wl_op rfl (op_move rfl rfl ?_)
    refine wl_op rfl (op_len_slice rfl rfl und22 rfl rfl ?_)
    refine wl_op rfl (op_move rfl rfl ?_)
    refine (wl_done (then_norm ?_))
    refine wc_block ?_
    refine wc_loop (σ := Nat × Value × World) (fun st_ => [(1, .func (.func g) #[] caps), (4, .slice none 0 0), (5, .int .i64 0), (6, st_.2.1), (12, .slice A n c), (13, .int .i64 ((n : Nat) : Int)), (14, .int .i64 (st_.1 : Int))]) (fun st_ => st_.2.2) (fun st_ => (st_.1 ≤ n) ∧ (Own encP W7.heap.size 46 2 st_.2.2 st_.2.1 ((s.take st_.1).filter keep)) ∧ (Below W7.heap.size W7 st_.2.2)) (fun st_ => n - st_.1) (0, (.slice none 0 0), W7) ⟨(by first | omega | (dsimp only; omega)), (own_nil _ _ _ _ _), (Below.refl _ _)⟩ ⟨rfl, rfl, rfl, rfl, rfl, rfl, rfl, trivial⟩ rfl ?_
    rintro ⟨k, v, W11⟩ ⟨hk1, hown, hE12⟩
    dsimp only at hk1 hown hE12
    refine wc_at [(1, .func (.func g) #[] caps), (4, .slice none 0 0), (5, .int .i64 0), (6, v), (12, .slice A n c), (13, .int .i64 ((n : Nat) : Int)), (14, .int .i64 (k : Int))] W11 ⟨rfl, rfl, rfl, rfl, rfl, rfl, rfl, trivial⟩ rfl ?_
    refine wc_seq ?_
    refine wc_region ?_
    refine wl_op rfl (op_lss rfl rfl rfl ?_)
    refine (wl_done (then_norm ?_))
    refine wc_seq ?_
    refine wc_cond (b := decide ((k : Int) < ((n : Nat) : Int))) rfl (fun hc13 => ?_) (fun hc13 => ?_)
    · have hc13r := hc13
      have hc13 := of_decide_eq_true hc13
      refine wc_skip ?_
      refine (then_norm ?_)
      refine wc_seq ?_
      refine wc_block ?_
      refine wc_seq ?_
      refine wc_region ?_
      obtain ⟨x_s_k, hx_s_k⟩ : ∃ x, s[k]? = some x := ⟨_, List.getElem?_eq_getElem (by have := hs.len; omega)⟩
      refine wl_op rfl (op_indexAddr (j := k) rfl rfl und22 sz46 (hA3 (by omega)) rfl (by omega) rfl ?_)
      have hB14 : Below w.heap.size w W11 := (below_step (below_step (Below.refl _ _) hE8) hE12)
      refine wl_op rfl (op_loadN (vs := [.int .i64 x_s_k.kind, .int .i64 x_s_k.val]) rfl agg46 sz46 rfl ((hc4 k x_s_k hx_s_k).ext hB14) rfl ?_)
      refine wl_op rfl (op_alloc zero46 rfl ?_)
      intro W15 b16 hN17
      have hb18 : W15.heap[b16]? = some (.cells #[.int .i64 0, .int .i64 0] 46 (0, 0)) := hN17.blk
      refine wl_op rfl (op_storeW rfl rfl sz46 hb18 rfl rfl ?_)
      intro W19 hP20 hb21
      have hb21 : W19.heap[b16]? = some (.cells #[.int .i64 x_s_k.kind, .int .i64 x_s_k.val] 46 (0, 0)) := hb21
      refine (wl_done (then_norm ?_))
      refine wc_seq ?_
      refine wc_region ?_
      refine wl_op rfl (op_move rfl rfl ?_)
      refine wl_op rfl (op_loadN (vs := [.int .i64 x_s_k.kind, .int .i64 x_s_k.val]) rfl agg46 sz46 rfl (cells_blk hb21) rfl ?_)
      have hB22 : Below w.heap.size w W19 := (hP20.below (below_new hB14 hN17) (le_new hB14 hN17))
      refine wl_op rfl (op_callv (f := g) rfl hent rfl rfl (hk _ _ _ hv (List.mem_of_getElem? hx_s_k) hB22) rfl ?_)
      rintro _ W23 ⟨rfl, hE24⟩
      refine (wl_done (then_norm ?_))
      refine wc_cond (b := keep ⟨x_s_k.kind, x_s_k.val⟩) rfl (fun hc25 => ?_) (fun hc25 => ?_)
      · have hkeep : keep x_s_k = true := hc25
        refine wc_region ?_
        refine wl_op rfl (op_move rfl rfl ?_)
        have hb26 : W23.heap[b16]? = some (.cells #[.int .i64 x_s_k.kind, .int .i64 x_s_k.val] 46 (0, 0)) := (blk_ext hb21 hE24)
        refine wl_op rfl (op_loadN (vs := [.int .i64 x_s_k.kind, .int .i64 x_s_k.val]) rfl agg46 sz46 rfl (cells_blk hb26) rfl ?_)
        refine wl_op rfl (op_buildSlice (cs := #[.int .i64 x_s_k.kind, .int .i64 x_s_k.val]) (e := 46) rfl (fun w => by kernel_rfl) rfl ?_)
        intro W27 b28 hN29
        have hb30 : W27.heap[b28]? = some (.cells #[.int .i64 x_s_k.kind, .int .i64 x_s_k.val] 46 (0, 0)) := hN29.blk
        have hB36 : Below W7.heap.size W7 W11 := (below_step (Below.refl _ _) hE12)
        have hB37 : Below W7.heap.size W7 W27 := (below_new (below_step (hP20.below (below_new (below_step (Below.refl _ _) hE12) hN17) (le_new hB36 hN17)) hE24) hN29)
        refine wl_op rfl (op_appendP (enc := encP) (⟨x_s_k.kind, x_s_k.val⟩ : Pol) rfl rfl app22 rfl rfl (Own.ext (Own.ext (own_put (Own.ext hown hN17.ext) hP20 (own_ne_new hown hN17)) hE24) hN29.ext) (cells_blk hb30) rfl rfl (by have := filter_take_le s k keep; omega) (by have := filter_take_le s k keep; omega) hB37.size rfl ?_)
        intro v31 W32 ho33 hg34 hob35
        refine wl_op rfl (op_assign rfl rfl ?_)
        refine (wl_done (block_norm (then_norm ?_)))
        refine wc_region ?_
        refine wl_op rfl (op_add (r := ((k + 1 : Nat) : Int)) rfl rfl (by omega) (by omega) rfl ?_)
        refine wl_op rfl (op_move rfl rfl ?_)
        refine (wl_done (then_norm ?_))
        have hB38 : Below W7.heap.size W7 W32 := (below_grown hB37 (Own.ext (Own.ext (own_put (Own.ext hown hN17.ext) hP20 (own_ne_new hown hN17)) hE24) hN29.ext) hg34 (Nat.le_refl _))
        refine ⟨((k + 1), v31, W32), ⟨(by first | omega | (dsimp only; omega)), (by dsimp only; rw [take_filter_t hx_s_k hkeep]; exact ho33), hB38⟩, ?_, ⟨rfl, rfl, rfl, rfl, rfl, rfl, rfl, trivial⟩, rfl⟩
        · dsimp only; omega
      · have hkeep : keep x_s_k = false := hc25
        refine wc_skip ?_
        refine (block_norm (then_norm ?_))
        refine wc_region ?_
        refine wl_op rfl (op_add (r := ((k + 1 : Nat) : Int)) rfl rfl (by omega) (by omega) rfl ?_)
        refine wl_op rfl (op_move rfl rfl ?_)
        refine (wl_done (then_norm ?_))
        have hB39 : Below W7.heap.size W7 W11 := (below_step (Below.refl _ _) hE12)
        have hB40 : Below W7.heap.size W7 W23 := (below_step (hP20.below (below_new (below_step (Below.refl _ _) hE12) hN17) (le_new hB39 hN17)) hE24)
        refine ⟨((k + 1), v, W23), ⟨(by first | omega | (dsimp only; omega)), (by dsimp only; rw [take_filter_f hx_s_k hkeep]; exact (Own.ext (own_put (Own.ext hown hN17.ext) hP20 (own_ne_new hown hN17)) hE24)), hB40⟩, ?_, ⟨rfl, rfl, rfl, rfl, rfl, rfl, rfl, trivial⟩, rfl⟩
        · dsimp only; omega
    · have hc13r := hc13
      have hc13 := of_decide_eq_false hc13
      refine wc_exit ?_
      refine (then_exit (then_exit (block_here (then_norm ?_))))
      refine wc_seq ?_
      refine wc_region ?_
      refine wl_op rfl (op_move rfl rfl ?_)
      refine wl_op rfl (op_assign rfl rfl ?_)
      refine wl_op rfl (op_assign rfl rfl ?_)
      refine (wl_done (then_norm ?_))
      refine WC.sub [(4, v), (5, .int .i64 0)] ⟨rfl, rfl, trivial⟩ ?_
      refine wc_ret ?_
      have hB41 : Below w.heap.size w W11 := (below_step (below_step (Below.refl _ _) hE8) hE12)
      obtain ⟨A42, n43, c44, hv45, hr46, hn47, hnc48⟩ := rd_of_OwnC hown (fun _ => rfl) (by have := filter_take_le s k keep; omega)
      subst hv45
      have hkn : s.take k = s := List.take_of_length_le (by omega)
      refine ⟨[_, _], ⟨rfl, rfl, trivial⟩, ⟨A42, n43, c44, ?_, (by rw [chosenL, if_pos hv, ← hkn]; exact hr46), hB41⟩⟩
      rw [chosenE, if_pos hv]
      rfl

theorem mem_valid {s : List Pol} (hv : validSet s = true) {p : Pol} (hm : p ∈ s) : validB p = true := by
  obtain ⟨i, hi, rfl⟩ := List.getElem_of_mem hm
  have := validSet_iff.1 hv i hi
  unfold okAt at this
  rw [List.getElem?_eq_getElem hi] at this
  exact (Bool.and_eq_true_iff.1 this).1
theorem valid_kind {p : Pol} (h : validB p = true) : 1 ≤ p.kind ∧ p.kind ≤ 13 := by
  unfold validB at h
  exact isB_iff.1 (and_l (and_l h))
theorem valid_val {p : Pol} (h : validB p = true) : leastI p.kind ≤ p.val ∧ p.val ≤ mostI p.kind := by
  unfold validB at h
  exact ⟨of_decide_eq_true (and_r (and_l h)), of_decide_eq_true (and_r h)⟩
theorem valid_asc {s : List Pol} (hv : validSet s = true) : Asc s := by
  have h1 : ∀ (i j : Nat) (x y : Pol), i < j → s[i]? = some x → s[j]? = some y → x.kind < y.kind := by
    intro i j
    induction j with
    | zero => intro x y h; omega
    | succ j ih =>
      intro x y hij hx hy
      have hj := (List.getElem?_eq_some_iff.1 hy).1
      have hz : s[j]? = some s[j] := List.getElem?_eq_getElem (by omega)
      have hok := validSet_iff.1 hv (j + 1) hj
      have hs : s[j].kind < y.kind := by
        unfold okAt at hok
        rw [hy] at hok
        have := and_r hok
        rw [show j + 1 - 1 = j from rfl, hz] at this
        simpa using this
      rcases Nat.lt_or_ge i j with h | h
      · have := ih x s[j] h hx hz; omega
      · obtain rfl : i = j := by omega
        rw [hz] at hx; cases hx; exact hs
  exact ⟨fun i x hx => valid_kind (mem_valid hv (List.mem_of_getElem? hx)), h1⟩
abbrev keepPlain (p : Pol) : Bool := !decide (p.val = leastI p.kind)
abbrev keepCalls (p : Pol) : Bool := decide (8 ≤ p.kind)

theorem Plain1_spec {w : World} {a b : Int} (h1 : 1 ≤ a) (h2 : a ≤ 13) : Ret Try.prog 58 #[.agg #[.int .i64 a, .int .i64 b]] w (fun v w' => v = .bool (keepPlain ⟨a, b⟩) ∧ Below w.heap.size w w') := by
  refine ret_of (args := [.agg #[.int .i64 a, .int .i64 b]]) Try.func58 rfl Try.ntmps58 rfl (rs := [.tmp 2]) rfl ?_
  refine wc_seq ?_
  refine wc_region ?_
  refine wl_op rfl (op_box rfl rfl ?_)
  intro W1 b2 hN3
  have hb4 : W1.heap[b2]? = some (.cells #[.int .i64 a, .int .i64 b] 46 (0, 0)) := hN3.blk
  refine wl_op rfl (op_assign rfl rfl ?_)
  refine (wl_done (then_norm ?_))
  refine wc_seq ?_
  refine wc_draw mixed [(1, .pointer (some ⟨b2, 0, none⟩))] ⟨rfl, trivial⟩ [fun v _ => v = .pointer (some ⟨b2, 0 + 1, none⟩), fun v _ => v = .int .i64 b, fun v _ => v = .pointer (some ⟨b2, 0 + 0, none⟩), fun v _ => v = .int .i64 a, fun v _ => v = .int .i64 (leastI a), fun v _ => v = .bool (!decide (b = leastI a)), fun v _ => v = .bool (!decide (b = leastI a))] [[], [0], [], [2], [3], [1, 4], [5]] [6] rfl rfl rfl ⟨fun _ _ _ _ h => h, fun _ _ _ _ h => h, fun _ _ _ _ h => h, fun _ _ _ _ h => h, fun _ _ _ _ h => h, fun _ _ _ _ h => h, fun _ _ _ _ h => h, trivial⟩ ⟨?_, ?_, ?_, ?_, ?_, ?_, ?_, trivial⟩ ?_
  · intro W5 hW6
    refine gather_nil ?_
    refine opg_none rfl ?_
    exact op_fieldAddr rfl fa46_1 rfl ⟨told rfl rfl rfl, (Below.refl _ _)⟩
  · intro W5 hW6
    rintro _ rfl
    refine gather_nil ?_
    refine opg_none rfl ?_
    have hb9 : W5.heap[b2]? = some (.cells #[.int .i64 a, .int .i64 b] 46 (0, 0)) := (blk_ext hb4 hW6)
    exact op_load1 (v := .int .i64 b) rfl agg3 (cell_blk hb9 rfl) rfl ⟨told rfl rfl rfl, (Below.refl _ _)⟩
  · intro W5 hW6
    refine gather_nil ?_
    refine opg_none rfl ?_
    exact op_fieldAddr rfl fa46_0 rfl ⟨told rfl rfl rfl, (Below.refl _ _)⟩
  · intro W5 hW6
    rintro _ rfl
    refine gather_nil ?_
    refine opg_none rfl ?_
    have hb10 : W5.heap[b2]? = some (.cells #[.int .i64 a, .int .i64 b] 46 (0, 0)) := (blk_ext hb4 hW6)
    exact op_load1 (v := .int .i64 a) rfl agg3 (cell_blk hb10 rfl) rfl ⟨told rfl rfl rfl, (Below.refl _ _)⟩
  · intro W5 hW6
    rintro _ rfl
    refine gather_nil ?_
    refine opg_none rfl ?_
    refine op_call ent59 rfl (least_spec (by omega) (by omega)) rfl ?_
    rintro _ W11 ⟨rfl, hE12⟩
    exact ⟨told rfl rfl rfl, hE12⟩
  · intro W5 hW6
    rintro _ rfl
    rintro _ rfl
    refine gather_nil ?_
    refine opg_none rfl ?_
    exact op_neq rfl rfl rfl ⟨told rfl rfl rfl, (Below.refl _ _)⟩
  · intro W5 hW6
    rintro _ rfl
    refine gather_nil ?_
    refine opg_none rfl ?_
    exact op_assign rfl rfl ⟨told rfl rfl rfl, (Below.refl _ _)⟩
  intro W13 hW14
  rintro _ rfl
  refine gather_nil ?_
  refine (then_norm ?_)
  refine wc_ret ?_
  have hB15 : Below w.heap.size w W13 := (below_step (below_new (Below.refl _ _) hN3) hW14)
  refine ⟨[_], ⟨rfl, trivial⟩, ⟨?_, hB15⟩⟩
  exact rfl

theorem Calls1_spec {w : World} {a b : Int} : Ret Try.prog 69 #[.agg #[.int .i64 a, .int .i64 b]] w (fun v w' => v = .bool (keepCalls ⟨a, b⟩) ∧ Below w.heap.size w w') := by
  refine ret_of (args := [.agg #[.int .i64 a, .int .i64 b]]) Try.func69 rfl Try.ntmps69 rfl (rs := [.tmp 2]) rfl ?_
  refine wc_seq ?_
  refine wc_region ?_
  refine wl_op rfl (op_box rfl rfl ?_)
  intro W1 b2 hN3
  have hb4 : W1.heap[b2]? = some (.cells #[.int .i64 a, .int .i64 b] 46 (0, 0)) := hN3.blk
  refine wl_op rfl (op_assign rfl rfl ?_)
  refine (wl_done (then_norm ?_))
  refine wc_seq ?_
  refine wc_region ?_
  refine wl_op rfl (op_fieldAddr rfl fa46_0 rfl ?_)
  refine wl_op rfl (op_load1 (v := .int .i64 a) rfl agg3 (cell_blk hb4 rfl) rfl ?_)
  refine wl_op rfl (op_geq rfl rfl rfl ?_)
  refine wl_op rfl (op_assign rfl rfl ?_)
  refine (wl_done (then_norm ?_))
  refine wc_ret ?_
  have hB5 : Below w.heap.size w W1 := (below_new (Below.refl _ _) hN3)
  refine ⟨[_], ⟨rfl, trivial⟩, ⟨?_, hB5⟩⟩
  exact rfl

theorem Plain_spec {w : World} {A : Option Addr} {n c : Nat} {s : List Pol} (hs : RdP w A n s) (hn : n ≤ 1000) : Ret Try.prog 21 #[.slice A n c] w (fun v w' => ∃ (A1 : Option Addr) (n1 c1 : Nat), v = .tuple #[.slice A1 n1 c1, .int .i64 (chosenE s)] ∧ RdP w' A1 n1 (chosenL s keepPlain) ∧ Below w.heap.size w w') := by
  obtain ⟨bs1, os2, hA3, hc4⟩ := hs.flat
  have hln5 := hs.len
  have hbd6 := hs.bd
  have hlen_s := hs.len
  refine ret_of (args := [.slice A n c]) Try.func21 rfl Try.ntmps21 rfl (rs := [.tmp 2, .tmp 3]) rfl ?_
  refine wc_seq ?_
  refine wc_region ?_
  refine wl_op rfl (op_assign rfl rfl ?_)
  refine wl_op rfl (op_assign rfl rfl ?_)
  refine (wl_done (then_norm ?_))
  refine wc_seq ?_
  refine wc_region ?_
  refine wl_op rfl (op_move rfl rfl ?_)
  refine wl_op rfl (op_call ent57 rfl (chosen_spec hs hn ent58 (fun W a b hv hm hW => Plain1_spec (valid_kind (mem_valid hv hm)).1 (valid_kind (mem_valid hv hm)).2) (keep := keepPlain)) rfl ?_)
  rintro _ W11 ⟨A17, n18, c19, rfl, hp10, hE12⟩
  refine wl_op rfl (op_extract (v := .slice A17 n18 c19) rfl rfl rfl ?_)
  refine wl_op rfl (op_extract (v := .int .i64 (chosenE s)) rfl rfl rfl ?_)
  refine wl_op rfl (op_assign rfl rfl ?_)
  refine wl_op rfl (op_assign rfl rfl ?_)
  refine (wl_done (then_norm ?_))
  refine wc_ret ?_
  have hB13 : Below w.heap.size w W11 := (below_step (Below.refl _ _) hE12)
  refine ⟨[_, _], ⟨rfl, rfl, trivial⟩, ⟨A17, n18, c19, ?_, hp10, hB13⟩⟩
  exact rfl

theorem Calls_spec {w : World} {A : Option Addr} {n c : Nat} {s : List Pol} (hs : RdP w A n s) (hn : n ≤ 1000) : Ret Try.prog 36 #[.slice A n c] w (fun v w' => ∃ (A1 : Option Addr) (n1 c1 : Nat), v = .tuple #[.slice A1 n1 c1, .int .i64 (chosenE s)] ∧ RdP w' A1 n1 (chosenL s keepCalls) ∧ Below w.heap.size w w') := by
  obtain ⟨bs1, os2, hA3, hc4⟩ := hs.flat
  have hln5 := hs.len
  have hbd6 := hs.bd
  have hlen_s := hs.len
  refine ret_of (args := [.slice A n c]) Try.func36 rfl Try.ntmps36 rfl (rs := [.tmp 2, .tmp 3]) rfl ?_
  refine wc_seq ?_
  refine wc_region ?_
  refine wl_op rfl (op_assign rfl rfl ?_)
  refine wl_op rfl (op_assign rfl rfl ?_)
  refine (wl_done (then_norm ?_))
  refine wc_seq ?_
  refine wc_region ?_
  refine wl_op rfl (op_move rfl rfl ?_)
  refine wl_op rfl (op_call ent57 rfl (chosen_spec hs hn ent69 (fun W a b hv hm hW => Calls1_spec) (keep := keepCalls)) rfl ?_)
  rintro _ W11 ⟨A17, n18, c19, rfl, hp10, hE12⟩
  refine wl_op rfl (op_extract (v := .slice A17 n18 c19) rfl rfl rfl ?_)
  refine wl_op rfl (op_extract (v := .int .i64 (chosenE s)) rfl rfl rfl ?_)
  refine wl_op rfl (op_assign rfl rfl ?_)
  refine wl_op rfl (op_assign rfl rfl ?_)
  refine (wl_done (then_norm ?_))
  refine wc_ret ?_
  have hB13 : Below w.heap.size w W11 := (below_step (Below.refl _ _) hE12)
  refine ⟨[_, _], ⟨rfl, rfl, trivial⟩, ⟨A17, n18, c19, ?_, hp10, hB13⟩⟩
  exact rfl

end Go.Eng
