/- Lemmas for a law of the seat: what functions of the program do, each stated as a contract of its own (module S18e). -/
import Derived.Test.YtbjafckcpkhoaaaS18d
import Derived.Test.YtbjafckcpkhoaaaChecked
set_option linter.unusedVariables false
set_option maxRecDepth 100000
namespace Go.Eng
open Go.RowKit Go.Shelf Go.Proofs Pol

theorem ent39 : Enters Try.prog 39 := enters_of Try.func39 (by kernel_rfl) rfl
theorem und53 : Und Try.prog 53 (.slice 57) := by unfold Und; kernel_rfl
theorem sz57 : Sz Try.prog 57 3 := fun w => by kernel_rfl
theorem agg57 : AggT Try.prog 57 true := fun w => by kernel_rfl
theorem zero57 : Zero Try.prog 57 (.agg #[.int .i64 0, .int .i64 0, .nilFunc]) := fun w => by kernel_rfl
theorem fa57_2 : FieldAt Try.prog 57 2 2 := fun b o w => by kernel_rfl
theorem agg55 : AggT Try.prog 55 false := fun w => by kernel_rfl
theorem fa57_0 : FieldAt Try.prog 57 0 0 := fun b o w => by kernel_rfl
theorem ent40 : Enters Try.prog 40 := enters_of Try.func40 (by kernel_rfl) rfl
theorem fa57_1 : FieldAt Try.prog 57 1 1 := fun b o w => by kernel_rfl
theorem app25 : AppT Try.prog 25 29 2 16 := appT_of (z := .agg #[.int .i64 0, .int .i64 0]) (by kernel_rfl) (by kernel_rfl) rfl rfl

abbrev encQ (q : Int × Int) : List Value := [.int .i64 q.1, .int .i64 q.2]
abbrev RdQ (w : World) (A : Option Addr) (n : Nat) (xs : List (Int × Int)) : Prop := Rd (Flat encQ) 2 w A n xs
def badOf (s : List Pol) (r : ClashRow) : Bool := r.bad (valueOf s r.a) (valueOf s r.b)
def pairOf (r : ClashRow) : Int × Int := (r.a, r.b)
def clashList (s : List Pol) : List (Int × Int) := (clashRows.filter (badOf s)).map pairOf
def clashL (s : List Pol) : List (Int × Int) := if validSet s = true then clashList s else []
theorem clashRows_kinds {k : Nat} {x : ClashRow} (h : clashRows[k]? = some x) : (1 ≤ x.a ∧ x.a ≤ 13) ∧ (1 ≤ x.b ∧ x.b ≤ 13) := by
  have hm := List.mem_of_getElem? h
  simp only [clashRows, List.mem_cons, List.not_mem_nil, or_false] at hm
  rcases hm with rfl | rfl | rfl | rfl | rfl | rfl | rfl <;> exact ⟨⟨by decide, by decide⟩, ⟨by decide, by decide⟩⟩
theorem clash_le (s : List Pol) (k : Nat) : (((clashRows.take k).filter (badOf s)).map pairOf).length ≤ 7 := by
  rw [List.length_map]
  exact Nat.le_trans (List.length_filter_le _ _) (Nat.le_trans (List.length_take_le' _ _) (by decide))

theorem Clashes_spec {w : World} {A : Option Addr} {n c : Nat} {s : List Pol} (hs : RdP w A n s) : Ret Try.prog 8 #[.slice A n c] w (fun v w' => ∃ (A1 : Option Addr) (n1 c1 : Nat), v = .tuple #[.slice A1 n1 c1, .int .i64 (chosenE s)] ∧ RdQ w' A1 n1 (clashL s) ∧ Below w.heap.size w w') := by
  obtain ⟨bs1, os2, hA3, hc4⟩ := hs.flat
  have hln5 := hs.len
  have hbd6 := hs.bd
  have hlen_s := hs.len
  refine ret_of (args := [.slice A n c]) Try.func8 rfl Try.ntmps8 rfl (rs := [.tmp 2, .tmp 3]) rfl ?_
  refine wc_seq ?_
  refine wc_region ?_
  refine wl_op rfl (op_assign rfl rfl ?_)
  refine wl_op rfl (op_assign rfl rfl ?_)
  refine (wl_done (then_norm ?_))
  refine wc_seq ?_
  refine wc_seq ?_
  refine wc_region ?_
  refine wl_op rfl (op_move rfl rfl ?_)
  refine wl_op rfl (op_call ent27 rfl (ValidSet_spec hs) rfl ?_)
  rintro _ W7 ⟨rfl, hE8⟩
  refine wl_op rfl (op_not rfl rfl ?_)
  refine (wl_done (then_norm ?_))
  refine wc_cond (b := !(validSet s)) rfl (fun hc9 => ?_) (fun hc9 => ?_)
  · have hv : validSet s = false := by simpa using hc9
    refine wc_seq ?_
    refine wc_region ?_
    refine wl_op rfl (op_assign rfl rfl ?_)
    refine wl_op rfl (op_assign rfl rfl ?_)
    refine (wl_done (then_norm ?_))
    refine wc_ret ?_
    refine (then_ret ?_)
    have hB10 : Below w.heap.size w W7 := (below_step (Below.refl _ _) hE8)
    refine ⟨[_, _], ⟨rfl, rfl, trivial⟩, ⟨none, 0, 0, ?_, (by rw [clashL, if_neg (by rw [hv]; decide)]; exact rd_nil _ _ _), hB10⟩⟩
    rw [chosenE, if_neg (by rw [hv]; decide)]
    rfl
  · have hv : validSet s = true := by simpa using hc9
    have hasc := valid_asc hv
    refine wc_skip ?_
    refine (then_norm ?_)
    refine wc_seq ?_
    refine wc_region ?_
    refine wl_op rfl (op_assign rfl rfl ?_)
    refine (wl_done (then_norm ?_))
    refine wc_seq ?_
    refine wc_seq ?_
    refine wc_region ?_
    refine wl_op rfl (op_call ent39 rfl (clashes_spec) rfl ?_)
    rintro _ W15 ⟨A111, n112, c113, rfl, hp14, hE16⟩
    refine wl_op rfl (op_len_slice rfl rfl und53 rfl rfl ?_)
    refine wl_op rfl (op_move rfl rfl ?_)
    refine (wl_done (then_norm ?_))
    refine wc_block ?_
    refine wc_loop (σ := Nat × Value × World) (fun st_ => [(0, .slice A n c), (2, .slice none 0 0), (3, .int .i64 0), (4, st_.2.1), (10, .slice A111 n112 c113), (11, .int .i64 ((n112 : Nat) : Int)), (12, .int .i64 (st_.1 : Int))]) (fun st_ => st_.2.2) (fun st_ => (st_.1 ≤ n112) ∧ (Own encQ W15.heap.size 29 2 st_.2.2 st_.2.1 (((clashRows.take st_.1).filter (badOf s)).map pairOf)) ∧ (Below W15.heap.size W15 st_.2.2)) (fun st_ => n112 - st_.1) (0, (.slice none 0 0), W15) ⟨(by first | omega | (dsimp only; omega)), (own_nil _ _ _ _ _), (Below.refl _ _)⟩ ⟨rfl, rfl, rfl, rfl, rfl, rfl, rfl, trivial⟩ rfl ?_
    rintro ⟨k, v, W17⟩ ⟨hk1, hown, hE18⟩
    dsimp only at hk1 hown hE18
    refine wc_at [(0, .slice A n c), (2, .slice none 0 0), (3, .int .i64 0), (4, v), (10, .slice A111 n112 c113), (11, .int .i64 ((n112 : Nat) : Int)), (12, .int .i64 (k : Int))] W17 ⟨rfl, rfl, rfl, rfl, rfl, rfl, rfl, trivial⟩ rfl ?_
    refine wc_seq ?_
    refine wc_region ?_
    refine wl_op rfl (op_lss rfl rfl rfl ?_)
    refine (wl_done (then_norm ?_))
    refine wc_seq ?_
    refine wc_cond (b := decide ((k : Int) < ((n112 : Nat) : Int))) rfl (fun hc19 => ?_) (fun hc19 => ?_)
    · have hc19r := hc19
      have hc19 := of_decide_eq_true hc19
      refine wc_skip ?_
      refine (then_norm ?_)
      refine wc_seq ?_
      refine wc_block ?_
      refine wc_seq ?_
      refine wc_region ?_
      obtain ⟨bs20, os21, hA22, hc23⟩ := hp14.rows
      have hln24 := hp14.len
      have hbd25 := hp14.bd
      obtain ⟨x_clashRows_k, hx_clashRows_k⟩ : ∃ x, clashRows[k]? = some x := ⟨_, List.getElem?_eq_getElem (by have := hp14.len; omega)⟩
      obtain ⟨cs26, hcl27, hR28, hC29⟩ := hc23 k x_clashRows_k hx_clashRows_k
      obtain ⟨g30, caps31, rfl, he32, hcon33⟩ := hR28
      refine wl_op rfl (op_indexAddr (j := k) rfl rfl und53 sz57 (hA22 (by omega)) rfl (by omega) rfl ?_)
      have hB34 : Below W15.heap.size W15 W17 := (below_step (Below.refl _ _) hE18)
      refine wl_op rfl (op_loadN (vs := [.int .i64 x_clashRows_k.a, .int .i64 x_clashRows_k.b, .func (.func g30) #[] caps31]) rfl agg57 sz57 rfl (hC29.ext hB34) rfl ?_)
      refine wl_op rfl (op_alloc zero57 rfl ?_)
      intro W35 b36 hN37
      have hb38 : W35.heap[b36]? = some (.cells #[.int .i64 0, .int .i64 0, .nilFunc] 57 (0, 0)) := hN37.blk
      refine wl_op rfl (op_storeW rfl rfl sz57 hb38 rfl rfl ?_)
      intro W39 hP40 hb41
      have hb41 : W39.heap[b36]? = some (.cells #[.int .i64 x_clashRows_k.a, .int .i64 x_clashRows_k.b, .func (.func g30) #[] caps31] 57 (0, 0)) := hb41
      refine (wl_done (then_norm ?_))
      refine wc_seq ?_
      refine wc_draw mixed [(0, .slice A n c), (2, .slice none 0 0), (3, .int .i64 0), (4, v), (10, .slice A111 n112 c113), (11, .int .i64 ((n112 : Nat) : Int)), (12, .int .i64 (k : Int)), (13, .bool (decide ((k : Int) < ((n112 : Nat) : Int)))), (14, .pointer (some ⟨bs20, os21 + k * 3, none⟩)), (15, .agg #[.int .i64 x_clashRows_k.a, .int .i64 x_clashRows_k.b, .func (.func g30) #[] caps31]), (6, .pointer (some ⟨b36, 0, none⟩))] ⟨rfl, rfl, rfl, rfl, rfl, rfl, rfl, rfl, rfl, rfl, rfl, trivial⟩ [fun v _ => v = .pointer (some ⟨b36, 0 + 2, none⟩), fun v _ => v = .func (.func g30) #[] caps31, fun v _ => v = .slice A n c, fun v _ => v = .pointer (some ⟨b36, 0 + 0, none⟩), fun v _ => v = .int .i64 x_clashRows_k.a, fun v _ => v = .int .i64 (valueOf s x_clashRows_k.a), fun v _ => v = .slice A n c, fun v _ => v = .pointer (some ⟨b36, 0 + 1, none⟩), fun v _ => v = .int .i64 x_clashRows_k.b, fun v _ => v = .int .i64 (valueOf s x_clashRows_k.b), fun v _ => v = .bool (x_clashRows_k.bad (valueOf s x_clashRows_k.a) (valueOf s x_clashRows_k.b))] [[], [0], [], [], [3], [2, 4], [], [], [7], [6, 8], [1, 5, 9]] [0, 1, 2, 3, 4, 5, 6, 7, 8, 9, 10] rfl rfl rfl ⟨fun _ _ _ _ h => h, fun _ _ _ _ h => h, fun _ _ _ _ h => h, fun _ _ _ _ h => h, fun _ _ _ _ h => h, fun _ _ _ _ h => h, fun _ _ _ _ h => h, fun _ _ _ _ h => h, fun _ _ _ _ h => h, fun _ _ _ _ h => h, fun _ _ _ _ h => h, trivial⟩ ⟨?_, ?_, ?_, ?_, ?_, ?_, ?_, ?_, ?_, ?_, ?_, trivial⟩ ?_
      · intro W42 hW43
        refine gather_nil ?_
        refine opg_none rfl ?_
        exact op_fieldAddr rfl fa57_2 rfl ⟨told rfl rfl rfl, (Below.refl _ _)⟩
      · intro W42 hW43
        rintro _ rfl
        refine gather_nil ?_
        refine opg_none rfl ?_
        have hb52 : W42.heap[b36]? = some (.cells #[.int .i64 x_clashRows_k.a, .int .i64 x_clashRows_k.b, .func (.func g30) #[] caps31] 57 (0, 0)) := (blk_ext hb41 hW43)
        exact op_load1 (v := .func (.func g30) #[] caps31) rfl agg55 (cell_blk hb52 rfl) rfl ⟨told rfl rfl rfl, (Below.refl _ _)⟩
      · intro W42 hW43
        refine gather_nil ?_
        refine opg_none rfl ?_
        exact op_move rfl rfl ⟨told rfl rfl rfl, (Below.refl _ _)⟩
      · intro W42 hW43
        refine gather_nil ?_
        refine opg_none rfl ?_
        exact op_fieldAddr rfl fa57_0 rfl ⟨told rfl rfl rfl, (Below.refl _ _)⟩
      · intro W42 hW43
        rintro _ rfl
        refine gather_nil ?_
        refine opg_none rfl ?_
        have hb53 : W42.heap[b36]? = some (.cells #[.int .i64 x_clashRows_k.a, .int .i64 x_clashRows_k.b, .func (.func g30) #[] caps31] 57 (0, 0)) := (blk_ext hb41 hW43)
        exact op_load1 (v := .int .i64 x_clashRows_k.a) rfl agg3 (cell_blk hb53 rfl) rfl ⟨told rfl rfl rfl, (Below.refl _ _)⟩
      · intro W42 hW43
        rintro _ rfl
        rintro _ rfl
        refine gather_nil ?_
        refine opg_none rfl ?_
        have hB54 : Below w.heap.size w W17 := (below_step (below_step (below_step (Below.refl _ _) hE8) hE16) hE18)
        have hB55 : Below w.heap.size w W42 := (below_step (hP40.below (below_new (below_step (below_step (below_step (Below.refl _ _) hE8) hE16) hE18) hN37) (le_new hB54 hN37)) hW43)
        refine op_call ent40 rfl (value_spec (hs.ext (flat_lifts _) hB55) hasc (by have := clashRows_kinds hx_clashRows_k; omega) (by have := clashRows_kinds hx_clashRows_k; omega)) rfl ?_
        rintro _ W56 ⟨rfl, hE57⟩
        exact ⟨told rfl rfl rfl, hE57⟩
      · intro W42 hW43
        refine gather_nil ?_
        refine opg_none rfl ?_
        exact op_move rfl rfl ⟨told rfl rfl rfl, (Below.refl _ _)⟩
      · intro W42 hW43
        refine gather_nil ?_
        refine opg_none rfl ?_
        exact op_fieldAddr rfl fa57_1 rfl ⟨told rfl rfl rfl, (Below.refl _ _)⟩
      · intro W42 hW43
        rintro _ rfl
        refine gather_nil ?_
        refine opg_none rfl ?_
        have hb58 : W42.heap[b36]? = some (.cells #[.int .i64 x_clashRows_k.a, .int .i64 x_clashRows_k.b, .func (.func g30) #[] caps31] 57 (0, 0)) := (blk_ext hb41 hW43)
        exact op_load1 (v := .int .i64 x_clashRows_k.b) rfl agg3 (cell_blk hb58 rfl) rfl ⟨told rfl rfl rfl, (Below.refl _ _)⟩
      · intro W42 hW43
        rintro _ rfl
        rintro _ rfl
        refine gather_nil ?_
        refine opg_none rfl ?_
        have hB59 : Below w.heap.size w W17 := (below_step (below_step (below_step (Below.refl _ _) hE8) hE16) hE18)
        have hB60 : Below w.heap.size w W42 := (below_step (hP40.below (below_new (below_step (below_step (below_step (Below.refl _ _) hE8) hE16) hE18) hN37) (le_new hB59 hN37)) hW43)
        refine op_call ent40 rfl (value_spec (hs.ext (flat_lifts _) hB60) hasc (by have := clashRows_kinds hx_clashRows_k; omega) (by have := clashRows_kinds hx_clashRows_k; omega)) rfl ?_
        rintro _ W61 ⟨rfl, hE62⟩
        exact ⟨told rfl rfl rfl, hE62⟩
      · intro W42 hW43
        rintro _ rfl
        rintro _ rfl
        rintro _ rfl
        refine gather_nil ?_
        refine opg_none rfl ?_
        have hB63 : Below W15.heap.size W15 W42 := (below_step (hP40.below (below_new hB34 hN37) (le_new hB34 hN37)) hW43)
        refine op_callv (f := g30) rfl he32 rfl rfl (hcon33 _ hB63 _ _) rfl ?_
        rintro _ W64 ⟨rfl, hE65⟩
        exact ⟨told rfl rfl rfl, hE65⟩
      intro W66 hW67
      rintro _ rfl
      rintro _ rfl
      rintro _ rfl
      rintro _ rfl
      rintro _ rfl
      rintro _ rfl
      rintro _ rfl
      rintro _ rfl
      rintro _ rfl
      rintro _ rfl
      rintro _ rfl
      refine gather_nil ?_
      refine (then_norm ?_)
      refine wc_cond (b := x_clashRows_k.bad (valueOf s x_clashRows_k.a) (valueOf s x_clashRows_k.b)) rfl (fun hc68 => ?_) (fun hc68 => ?_)
      · have hb : badOf s x_clashRows_k = true := hc68
        refine wc_region ?_
        refine wl_op rfl (op_move rfl rfl ?_)
        refine wl_op rfl (op_fieldAddr rfl fa57_0 rfl ?_)
        have hb69 : W66.heap[b36]? = some (.cells #[.int .i64 x_clashRows_k.a, .int .i64 x_clashRows_k.b, .func (.func g30) #[] caps31] 57 (0, 0)) := (blk_ext hb41 hW67)
        refine wl_op rfl (op_load1 (v := .int .i64 x_clashRows_k.a) rfl agg3 (cell_blk hb69 rfl) rfl ?_)
        refine wl_op rfl (op_fieldAddr rfl fa57_1 rfl ?_)
        refine wl_op rfl (op_load1 (v := .int .i64 x_clashRows_k.b) rfl agg3 (cell_blk hb69 rfl) rfl ?_)
        refine wl_op rfl (op_build (v := .agg #[.int .i64 x_clashRows_k.a, .int .i64 x_clashRows_k.b]) rfl (fun w => by kernel_rfl) rfl ?_)
        refine wl_op rfl (op_buildSlice (cs := #[.int .i64 x_clashRows_k.a, .int .i64 x_clashRows_k.b]) (e := 29) rfl (fun w => by kernel_rfl) rfl ?_)
        intro W70 b71 hN72
        have hb73 : W70.heap[b71]? = some (.cells #[.int .i64 x_clashRows_k.a, .int .i64 x_clashRows_k.b] 29 (0, 0)) := hN72.blk
        have hB79 : Below W15.heap.size W15 W70 := (below_new (below_step (hP40.below (below_new hB34 hN37) (le_new hB34 hN37)) hW67) hN72)
        refine wl_op rfl (op_appendP (enc := encQ) (x_clashRows_k.a, x_clashRows_k.b) rfl rfl app25 rfl rfl (Own.ext (Own.ext (own_put (Own.ext hown hN37.ext) hP40 (own_ne_new hown hN37)) hW67) hN72.ext) (cells_blk hb73) rfl rfl (by have := clash_le s k; omega) (by have := clash_le s k; omega) hB79.size rfl ?_)
        intro v74 W75 ho76 hg77 hob78
        refine wl_op rfl (op_assign rfl rfl ?_)
        refine (wl_done (block_norm (then_norm ?_)))
        refine wc_region ?_
        refine wl_op rfl (op_add (r := ((k + 1 : Nat) : Int)) rfl rfl (by omega) (by omega) rfl ?_)
        refine wl_op rfl (op_move rfl rfl ?_)
        refine (wl_done (then_norm ?_))
        have hB80 : Below W15.heap.size W15 W75 := (below_grown hB79 (Own.ext (Own.ext (own_put (Own.ext hown hN37.ext) hP40 (own_ne_new hown hN37)) hW67) hN72.ext) hg77 (Nat.le_refl _))
        refine ⟨((k + 1), v74, W75), ⟨(by first | omega | (dsimp only; omega)), (by dsimp only; rw [take_filter_t hx_clashRows_k hb, List.map_append]; exact ho76), hB80⟩, ?_, ⟨rfl, rfl, rfl, rfl, rfl, rfl, rfl, trivial⟩, rfl⟩
        · dsimp only; omega
      · have hb : badOf s x_clashRows_k = false := hc68
        refine wc_skip ?_
        refine (block_norm (then_norm ?_))
        refine wc_region ?_
        refine wl_op rfl (op_add (r := ((k + 1 : Nat) : Int)) rfl rfl (by omega) (by omega) rfl ?_)
        refine wl_op rfl (op_move rfl rfl ?_)
        refine (wl_done (then_norm ?_))
        have hB81 : Below W15.heap.size W15 W66 := (below_step (hP40.below (below_new hB34 hN37) (le_new hB34 hN37)) hW67)
        refine ⟨((k + 1), v, W66), ⟨(by first | omega | (dsimp only; omega)), (by dsimp only; rw [take_filter_f hx_clashRows_k hb]; exact (Own.ext (own_put (Own.ext hown hN37.ext) hP40 (own_ne_new hown hN37)) hW67)), hB81⟩, ?_, ⟨rfl, rfl, rfl, rfl, rfl, rfl, rfl, trivial⟩, rfl⟩
        · dsimp only; omega
    · have hc19r := hc19
      have hc19 := of_decide_eq_false hc19
      refine wc_exit ?_
      refine (then_exit (then_exit (block_here (then_norm ?_))))
      refine wc_seq ?_
      refine wc_region ?_
      refine wl_op rfl (op_move rfl rfl ?_)
      refine wl_op rfl (op_assign rfl rfl ?_)
      refine wl_op rfl (op_assign rfl rfl ?_)
      refine (wl_done (then_norm ?_))
      refine WC.sub [(2, v), (3, .int .i64 0)] ⟨rfl, rfl, trivial⟩ ?_
      refine wc_ret ?_
      have hB82 : Below w.heap.size w W17 := (below_step (below_step (below_step (Below.refl _ _) hE8) hE16) hE18)
      obtain ⟨A83, n84, c85, hv86, hr87, hn88, hnc89⟩ := rd_of_OwnC hown (fun _ => rfl) (by have := clash_le s k; omega)
      subst hv86
      have hkn : clashRows.take k = clashRows := List.take_of_length_le (by have := hp14.len; omega)
      refine ⟨[_, _], ⟨rfl, rfl, trivial⟩, ⟨A83, n84, c85, ?_, (by rw [clashL, if_pos hv, clashList, ← hkn]; exact hr87), hB82⟩⟩
      rw [chosenE, if_pos hv]
      rfl

end Go.Eng
