/- Lemmas for a law of the seat: what functions of the program do, each stated as a contract of its own (S6). -/
import Derived.Test.YtbjafckcpkhoaaaL1
import Derived.Test.YtbjafckcpkhoaaaEng
import Derived.Test.YtbjafckcpkhoaaaChecked
set_option linter.unusedVariables false
set_option maxRecDepth 100000
namespace Go.Eng
open Go.RowKit Go.Shelf Go.Proofs Pol

theorem ent22 : Enters Try.prog 22 := enters_of Try.func22 (by kernel_rfl) rfl
theorem ent23 : Enters Try.prog 23 := enters_of Try.func23 (by kernel_rfl) rfl
theorem ent24 : Enters Try.prog 24 := enters_of Try.func24 (by kernel_rfl) rfl
theorem ent29 : Enters Try.prog 29 := enters_of Try.func29 (by kernel_rfl) rfl
theorem ent30 : Enters Try.prog 30 := enters_of Try.func30 (by kernel_rfl) rfl
theorem ent31 : Enters Try.prog 31 := enters_of Try.func31 (by kernel_rfl) rfl
theorem ent32 : Enters Try.prog 32 := enters_of Try.func32 (by kernel_rfl) rfl
theorem ent33 : Enters Try.prog 33 := enters_of Try.func33 (by kernel_rfl) rfl
theorem ent34 : Enters Try.prog 34 := enters_of Try.func34 (by kernel_rfl) rfl
theorem ent35 : Enters Try.prog 35 := enters_of Try.func35 (by kernel_rfl) rfl
theorem ent37 : Enters Try.prog 37 := enters_of Try.func37 (by kernel_rfl) rfl
theorem ent38 : Enters Try.prog 38 := enters_of Try.func38 (by kernel_rfl) rfl

theorem short1 {A1 : Option Addr} {n1 c1 : Nat} (h : shortH [⟨A1, n1, c1⟩] = true) : n1 ≤ 200 := by
  simp [shortH] at h; omega
theorem plain_get {s : List Pol} {k : Int} (hv : validSet s = true) (h1 : 1 ≤ k) (h2 : k ≤ 13) : getE (chosenL s keepPlain) k = 0 ∧ getV s k = getV (chosenL s keepPlain) k := by
  have hb : isB k = true := isB_iff.2 ⟨h1, h2⟩
  have hc := chosen_set hv keepPlain
  refine ⟨by rw [getE, if_pos hc, if_pos hb], ?_⟩
  rw [getV, getV, if_pos ⟨hv, hb⟩, if_pos ⟨hc, hb⟩, valueOf_plain hv]

theorem PolicySets_spec {w : World} {A : Option Addr} {n c : Nat} {s : List Pol} {a b q : Int} (hs : RdP w A n s) (hc : n ≤ c) : Ret Try.prog 5 #[.slice A n c, .agg #[.int .i64 a, .int .i64 b], .int .i64 q] w (fun v w' => v = .bool true ∧ Below w.heap.size w w') := by
  obtain ⟨bs1, os2, hA3, hc4⟩ := hs.flat
  have hln5 := hs.len
  have hbd6 := hs.bd
  have hlen_s := hs.len
  refine ret_of (args := [.slice A n c, .agg #[.int .i64 a, .int .i64 b], .int .i64 q]) Try.func5 rfl Try.ntmps5 rfl (rs := [.tmp 6]) rfl ?_
  refine wc_seq ?_
  refine wc_region ?_
  refine wl_op rfl (op_box rfl rfl ?_)
  intro W7 b8 hN9
  have hb10 : W7.heap[b8]? = some (.cells #[.int .i64 a, .int .i64 b] 46 (0, 0)) := hN9.blk
  refine wl_op rfl (op_assign rfl rfl ?_)
  refine (wl_done (then_norm ?_))
  refine wc_seq ?_
  refine wc_seq ?_
  refine wc_region ?_
  refine wl_op rfl (op_move rfl rfl ?_)
  refine wl_op rfl (op_buildSlice (cs := #[.slice A n c]) (e := 22) rfl (fun w => by kernel_rfl) rfl ?_)
  intro W11 b12 hN13
  have hb14 : W11.heap[b12]? = some (.cells #[.slice A n c] 22 (0, 0)) := hN13.blk
  refine wl_op rfl (op_call ent6 rfl (short_spec (rd_of_blk (enc := encH) [(⟨A, n, c⟩ : Hdr)] hb14 (fun _ => rfl) rfl rfl rfl)) rfl ?_)
  rintro _ W15 ⟨rfl, hE16⟩
  refine wl_op rfl (op_not rfl rfl ?_)
  refine (wl_done (then_norm ?_))
  refine wc_cond (b := !(shortH [(⟨A, n, c⟩ : Hdr)])) rfl (fun hc17 => ?_) (fun hc17 => ?_)
  · refine wc_seq ?_
    refine wc_region ?_
    refine wl_op rfl (op_call ent7 rfl (awake_spec) rfl ?_)
    rintro _ W18 ⟨rfl, hE19⟩
    refine wl_op rfl (op_assign rfl rfl ?_)
    refine (wl_done (then_norm ?_))
    refine WC.sub [(0, .slice A n c), (2, .int .i64 q), (4, .pointer (some ⟨b8, 0, none⟩)), (6, .bool true)] ⟨rfl, rfl, rfl, rfl, trivial⟩ ?_
    refine wc_ret ?_
    refine (then_ret ?_)
    have hB20 : Below w.heap.size w W18 := (below_step (below_step (below_new (below_new (Below.refl _ _) hN9) hN13) hE16) hE19)
    refine ⟨[_], ⟨rfl, trivial⟩, ⟨?_, hB20⟩⟩
    exact rfl
  · have hsh := short1 (by simpa using hc17)
    refine wc_skip ?_
    refine (then_norm ?_)
    refine wc_seq ?_
    refine wc_region ?_
    refine wl_op rfl (op_move rfl rfl ?_)
    have hB21 : Below w.heap.size w W15 := (below_step (below_new (below_new (Below.refl _ _) hN9) hN13) hE16)
    refine wl_op rfl (op_call ent22 rfl (Of_spec (hs.ext (flat_lifts _) hB21) (by omega)) rfl ?_)
    rintro _ W26 ⟨A122, n123, c124, rfl, hp25, hE27⟩
    refine wl_op rfl (op_move rfl rfl ?_)
    refine wl_op rfl (op_extract (v := .slice A122 n123 c124) rfl rfl rfl ?_)
    refine wl_op rfl (op_extract (v := .int .i64 (ofE s)) rfl rfl rfl ?_)
    refine wl_op rfl (op_assign rfl rfl ?_)
    refine wl_op rfl (op_assign rfl rfl ?_)
    refine (wl_done (then_norm ?_))
    refine WC.sub [(0, .slice A n c), (2, .int .i64 q), (4, .pointer (some ⟨b8, 0, none⟩)), (6, .bool false), (7, .slice A122 n123 c124), (8, .int .i64 (ofE s))] ⟨rfl, rfl, rfl, rfl, rfl, rfl, trivial⟩ ?_
    refine wc_seq ?_
    refine wc_region ?_
    refine wl_op rfl (op_move rfl rfl ?_)
    have hB28 : Below w.heap.size w W26 := (below_step hB21 hE27)
    refine wl_op rfl (op_call ent23 rfl (rOf_spec (hs.ext (flat_lifts _) hB28)) rfl ?_)
    rintro _ W33 ⟨A129, n130, c131, rfl, hp32, hE34⟩
    refine wl_op rfl (op_move rfl rfl ?_)
    refine wl_op rfl (op_extract (v := .slice A129 n130 c131) rfl rfl rfl ?_)
    refine wl_op rfl (op_extract (v := .int .i64 (ofE s)) rfl rfl rfl ?_)
    refine wl_op rfl (op_assign rfl rfl ?_)
    refine wl_op rfl (op_assign rfl rfl ?_)
    refine (wl_done (then_norm ?_))
    refine wc_seq ?_
    refine wc_region ?_
    refine wl_op rfl (op_move rfl rfl ?_)
    refine wl_op rfl (op_move rfl rfl ?_)
    have hB35 : Below w.heap.size w W33 := (below_step hB28 hE34)
    refine wl_op rfl (op_call ent13 rfl (Get_spec (hs.ext (flat_lifts _) hB35)) rfl ?_)
    rintro _ W36 ⟨rfl, hE37⟩
    refine wl_op rfl (op_move rfl rfl ?_)
    refine wl_op rfl (op_extract (v := .int .i64 (getV s q)) rfl rfl rfl ?_)
    refine wl_op rfl (op_extract (v := .int .i64 (getE s q)) rfl rfl rfl ?_)
    refine wl_op rfl (op_assign rfl rfl ?_)
    refine wl_op rfl (op_assign rfl rfl ?_)
    refine (wl_done (then_norm ?_))
    refine WC.sub [(0, .slice A n c), (2, .int .i64 q), (4, .pointer (some ⟨b8, 0, none⟩)), (6, .bool false), (7, .slice A122 n123 c124), (8, .int .i64 (ofE s)), (9, .slice A129 n130 c131), (10, .int .i64 (ofE s)), (11, .int .i64 (getV s q)), (12, .int .i64 (getE s q))] ⟨rfl, rfl, rfl, rfl, rfl, rfl, rfl, rfl, rfl, rfl, trivial⟩ ?_
    refine wc_seq ?_
    refine wc_region ?_
    refine wl_op rfl (op_move rfl rfl ?_)
    refine wl_op rfl (op_move rfl rfl ?_)
    have hB38 : Below w.heap.size w W36 := (below_step hB35 hE37)
    refine wl_op rfl (op_call ent24 rfl (rGet_spec (hs.ext (flat_lifts _) hB38)) rfl ?_)
    rintro _ W39 ⟨rfl, hE40⟩
    refine wl_op rfl (op_move rfl rfl ?_)
    refine wl_op rfl (op_extract (v := .int .i64 (getV s q)) rfl rfl rfl ?_)
    refine wl_op rfl (op_extract (v := .int .i64 (getE s q)) rfl rfl rfl ?_)
    refine wl_op rfl (op_assign rfl rfl ?_)
    refine wl_op rfl (op_assign rfl rfl ?_)
    refine (wl_done (then_norm ?_))
    refine WC.sub [(0, .slice A n c), (2, .int .i64 q), (4, .pointer (some ⟨b8, 0, none⟩)), (6, .bool false), (7, .slice A122 n123 c124), (8, .int .i64 (ofE s)), (9, .slice A129 n130 c131), (10, .int .i64 (ofE s)), (11, .int .i64 (getV s q)), (12, .int .i64 (getE s q)), (13, .int .i64 (getV s q)), (14, .int .i64 (getE s q))] ⟨rfl, rfl, rfl, rfl, rfl, rfl, rfl, rfl, rfl, rfl, rfl, rfl, trivial⟩ ?_
    refine wc_seq ?_
    refine wc_seq ?_
    refine wc_draw mixed [(0, .slice A n c), (2, .int .i64 q), (4, .pointer (some ⟨b8, 0, none⟩)), (6, .bool false), (7, .slice A122 n123 c124), (8, .int .i64 (ofE s)), (9, .slice A129 n130 c131), (10, .int .i64 (ofE s)), (11, .int .i64 (getV s q)), (12, .int .i64 (getE s q)), (13, .int .i64 (getV s q)), (14, .int .i64 (getE s q))] ⟨rfl, rfl, rfl, rfl, rfl, rfl, rfl, rfl, rfl, rfl, rfl, rfl, trivial⟩ [fun v _ => v = .agg #[.int .i64 a, .int .i64 b], fun v _ => v = .bool (validB ⟨a, b⟩), fun v _ => v = .agg #[.int .i64 a, .int .i64 b], fun v _ => v = .bool (validB ⟨a, b⟩), fun v _ => v = .bool (!decide ((validB ⟨a, b⟩) = (validB ⟨a, b⟩))), fun v _ => v = .bool (!decide ((validB ⟨a, b⟩) = (validB ⟨a, b⟩))), fun v _ => v = (bif (!(!decide ((validB ⟨a, b⟩) = (validB ⟨a, b⟩)))) then (.slice A n c) else undef), fun v _ => v = (bif (!(!decide ((validB ⟨a, b⟩) = (validB ⟨a, b⟩)))) then (.bool (validSet s)) else undef), fun v _ => v = (bif (!(!decide ((validB ⟨a, b⟩) = (validB ⟨a, b⟩)))) then (.slice A n c) else undef), fun v _ => v = (bif (!(!decide ((validB ⟨a, b⟩) = (validB ⟨a, b⟩)))) then (.bool (validSet s)) else undef), fun v _ => v = (bif (!(!decide ((validB ⟨a, b⟩) = (validB ⟨a, b⟩)))) then (.bool (!decide ((validSet s) = (validSet s)))) else undef), fun v _ => v = .bool ((!decide ((validB ⟨a, b⟩) = (validB ⟨a, b⟩))) || (!decide ((validSet s) = (validSet s)))), fun v _ => v = .bool ((!decide ((validB ⟨a, b⟩) = (validB ⟨a, b⟩))) || (!decide ((validSet s) = (validSet s)))), fun v _ => v = (bif (!((!decide ((validB ⟨a, b⟩) = (validB ⟨a, b⟩))) || (!decide ((validSet s) = (validSet s))))) then (.slice A122 n123 c124) else undef), fun v _ => v = (bif (!((!decide ((validB ⟨a, b⟩) = (validB ⟨a, b⟩))) || (!decide ((validSet s) = (validSet s))))) then (.slice A129 n130 c131) else undef), fun v _ => v = (bif (!((!decide ((validB ⟨a, b⟩) = (validB ⟨a, b⟩))) || (!decide ((validSet s) = (validSet s))))) then (.bool (decide ((ofL s) = (ofL s)))) else undef), fun v _ => v = (bif (!((!decide ((validB ⟨a, b⟩) = (validB ⟨a, b⟩))) || (!decide ((validSet s) = (validSet s))))) then (.bool (!(decide ((ofL s) = (ofL s))))) else undef), fun v _ => v = .bool (((!decide ((validB ⟨a, b⟩) = (validB ⟨a, b⟩))) || (!decide ((validSet s) = (validSet s)))) || (!(decide ((ofL s) = (ofL s))))), fun v _ => v = .bool (((!decide ((validB ⟨a, b⟩) = (validB ⟨a, b⟩))) || (!decide ((validSet s) = (validSet s)))) || (!(decide ((ofL s) = (ofL s))))), fun v _ => v = (bif (!(((!decide ((validB ⟨a, b⟩) = (validB ⟨a, b⟩))) || (!decide ((validSet s) = (validSet s)))) || (!(decide ((ofL s) = (ofL s)))))) then (.int .i64 (ofE s)) else undef), fun v _ => v = (bif (!(((!decide ((validB ⟨a, b⟩) = (validB ⟨a, b⟩))) || (!decide ((validSet s) = (validSet s)))) || (!(decide ((ofL s) = (ofL s)))))) then (.int .i64 (ofE s)) else undef), fun v _ => v = (bif (!(((!decide ((validB ⟨a, b⟩) = (validB ⟨a, b⟩))) || (!decide ((validSet s) = (validSet s)))) || (!(decide ((ofL s) = (ofL s)))))) then (.bool (!decide (ofE s = ofE s))) else undef), fun v _ => v = .bool ((((!decide ((validB ⟨a, b⟩) = (validB ⟨a, b⟩))) || (!decide ((validSet s) = (validSet s)))) || (!(decide ((ofL s) = (ofL s))))) || (!decide (ofE s = ofE s))), fun v _ => v = .bool ((((!decide ((validB ⟨a, b⟩) = (validB ⟨a, b⟩))) || (!decide ((validSet s) = (validSet s)))) || (!(decide ((ofL s) = (ofL s))))) || (!decide (ofE s = ofE s))), fun v _ => v = (bif (!((((!decide ((validB ⟨a, b⟩) = (validB ⟨a, b⟩))) || (!decide ((validSet s) = (validSet s)))) || (!(decide ((ofL s) = (ofL s))))) || (!decide (ofE s = ofE s)))) then (.int .i64 (getV s q)) else undef), fun v _ => v = (bif (!((((!decide ((validB ⟨a, b⟩) = (validB ⟨a, b⟩))) || (!decide ((validSet s) = (validSet s)))) || (!(decide ((ofL s) = (ofL s))))) || (!decide (ofE s = ofE s)))) then (.int .i64 (getV s q)) else undef), fun v _ => v = (bif (!((((!decide ((validB ⟨a, b⟩) = (validB ⟨a, b⟩))) || (!decide ((validSet s) = (validSet s)))) || (!(decide ((ofL s) = (ofL s))))) || (!decide (ofE s = ofE s)))) then (.bool (!decide (getV s q = getV s q))) else undef), fun v _ => v = .bool (((((!decide ((validB ⟨a, b⟩) = (validB ⟨a, b⟩))) || (!decide ((validSet s) = (validSet s)))) || (!(decide ((ofL s) = (ofL s))))) || (!decide (ofE s = ofE s))) || (!decide (getV s q = getV s q))), fun v _ => v = .bool (((((!decide ((validB ⟨a, b⟩) = (validB ⟨a, b⟩))) || (!decide ((validSet s) = (validSet s)))) || (!(decide ((ofL s) = (ofL s))))) || (!decide (ofE s = ofE s))) || (!decide (getV s q = getV s q))), fun v _ => v = (bif (!(((((!decide ((validB ⟨a, b⟩) = (validB ⟨a, b⟩))) || (!decide ((validSet s) = (validSet s)))) || (!(decide ((ofL s) = (ofL s))))) || (!decide (ofE s = ofE s))) || (!decide (getV s q = getV s q)))) then (.int .i64 (getE s q)) else undef), fun v _ => v = (bif (!(((((!decide ((validB ⟨a, b⟩) = (validB ⟨a, b⟩))) || (!decide ((validSet s) = (validSet s)))) || (!(decide ((ofL s) = (ofL s))))) || (!decide (ofE s = ofE s))) || (!decide (getV s q = getV s q)))) then (.int .i64 (getE s q)) else undef), fun v _ => v = (bif (!(((((!decide ((validB ⟨a, b⟩) = (validB ⟨a, b⟩))) || (!decide ((validSet s) = (validSet s)))) || (!(decide ((ofL s) = (ofL s))))) || (!decide (ofE s = ofE s))) || (!decide (getV s q = getV s q)))) then (.bool (!decide (getE s q = getE s q))) else undef), fun v _ => v = .bool ((((((!decide ((validB ⟨a, b⟩) = (validB ⟨a, b⟩))) || (!decide ((validSet s) = (validSet s)))) || (!(decide ((ofL s) = (ofL s))))) || (!decide (ofE s = ofE s))) || (!decide (getV s q = getV s q))) || (!decide (getE s q = getE s q)))] [[], [0], [], [2], [1, 3], [4], [5], [5, 6], [5], [5, 8], [5, 7, 9], [5, 10], [11], [12], [12], [12, 13, 14], [12, 15], [12, 16], [17], [18], [18], [18, 19, 20], [18, 21], [22], [23], [23], [23, 24, 25], [23, 26], [27], [28], [28], [28, 29, 30], [28, 31]] [32] rfl rfl rfl ⟨fun _ _ _ _ h => (by exact h), fun _ _ _ _ h => (by exact h), fun _ _ _ _ h => (by exact h), fun _ _ _ _ h => (by exact h), fun _ _ _ _ h => (by exact h), fun _ _ _ _ h => (by exact h), fun _ _ _ _ h => (by exact h), fun _ _ _ _ h => (by exact h), fun _ _ _ _ h => (by exact h), fun _ _ _ _ h => (by exact h), fun _ _ _ _ h => (by exact h), fun _ _ _ _ h => (by exact h), fun _ _ _ _ h => (by exact h), fun _ _ _ _ h => (by exact h), fun _ _ _ _ h => (by exact h), fun _ _ _ _ h => (by exact h), fun _ _ _ _ h => (by exact h), fun _ _ _ _ h => (by exact h), fun _ _ _ _ h => (by exact h), fun _ _ _ _ h => (by exact h), fun _ _ _ _ h => (by exact h), fun _ _ _ _ h => (by exact h), fun _ _ _ _ h => (by exact h), fun _ _ _ _ h => (by exact h), fun _ _ _ _ h => (by exact h), fun _ _ _ _ h => (by exact h), fun _ _ _ _ h => (by exact h), fun _ _ _ _ h => (by exact h), fun _ _ _ _ h => (by exact h), fun _ _ _ _ h => (by exact h), fun _ _ _ _ h => (by exact h), fun _ _ _ _ h => (by exact h), fun _ _ _ _ h => (by exact h), trivial⟩ ⟨?_, ?_, ?_, ?_, ?_, ?_, ?_, ?_, ?_, ?_, ?_, ?_, ?_, ?_, ?_, ?_, ?_, ?_, ?_, ?_, ?_, ?_, ?_, ?_, ?_, ?_, ?_, ?_, ?_, ?_, ?_, ?_, ?_, trivial⟩ ?_
    · intro W41 hW42
      refine gather_nil ?_
      refine opg_none rfl ?_
      have hb49 : W41.heap[b8]? = some (.cells #[.int .i64 a, .int .i64 b] 46 (0, 0)) := (blk_ext (blk_ext (blk_ext (blk_ext (blk_ext (blk_ext (blk_ext hb10 hN13.ext) hE16) hE27) hE34) hE37) hE40) hW42)
      exact op_loadN (vs := [.int .i64 a, .int .i64 b]) rfl agg46 sz46 rfl (cells_blk hb49) rfl ⟨told rfl rfl rfl, (Below.refl _ _)⟩
    · intro W41 hW42
      rintro _ rfl
      refine gather_nil ?_
      refine opg_none rfl ?_
      refine op_call ent25 rfl (Valid_spec) rfl ?_
      rintro _ W50 ⟨rfl, hE51⟩
      exact ⟨told rfl rfl rfl, hE51⟩
    · intro W41 hW42
      refine gather_nil ?_
      refine opg_none rfl ?_
      have hb52 : W41.heap[b8]? = some (.cells #[.int .i64 a, .int .i64 b] 46 (0, 0)) := (blk_ext (blk_ext (blk_ext (blk_ext (blk_ext (blk_ext (blk_ext hb10 hN13.ext) hE16) hE27) hE34) hE37) hE40) hW42)
      exact op_loadN (vs := [.int .i64 a, .int .i64 b]) rfl agg46 sz46 rfl (cells_blk hb52) rfl ⟨told rfl rfl rfl, (Below.refl _ _)⟩
    · intro W41 hW42
      rintro _ rfl
      refine gather_nil ?_
      refine opg_none rfl ?_
      refine op_call ent26 rfl (rValid_spec) rfl ?_
      rintro _ W53 ⟨rfl, hE54⟩
      exact ⟨told rfl rfl rfl, hE54⟩
    · intro W41 hW42
      rintro _ rfl
      rintro _ rfl
      refine gather_nil ?_
      refine opg_none rfl ?_
      exact op_neqb und4 rfl rfl rfl ⟨told rfl rfl rfl, (Below.refl _ _)⟩
    · intro W41 hW42
      rintro _ rfl
      refine gather_nil ?_
      refine opg_none rfl ?_
      exact op_move rfl rfl ⟨told rfl rfl rfl, (Below.refl _ _)⟩
    · intro W41 hW42
      rintro _ rfl
      refine gather_nil ?_
      refine opg_f1 rfl rfl (fun hg55 => ?_) (fun h => by rw [h, cond_false])
      exact op_move rfl rfl ⟨told rfl rfl (by rw [hg55, cond_true]), (Below.refl _ _)⟩
    · intro W41 hW42
      rintro _ rfl
      intro v56 (hv57 : v56 = bif (!(!decide ((validB ⟨a, b⟩) = (validB ⟨a, b⟩)))) then (.slice A n c) else undef)
      refine gather_nil ?_
      refine opg_f1 rfl rfl (fun hg58 => ?_) (fun h => by rw [h, cond_false])
      obtain rfl : v56 = .slice A n c := by rw [hv57, hg58, cond_true]
      have hB59 : Below w.heap.size w W41 := (below_step (below_step hB38 hE40) hW42)
      refine op_call ent27 rfl (ValidSet_spec (hs.ext (flat_lifts _) hB59)) rfl ?_
      rintro _ W60 ⟨rfl, hE61⟩
      exact ⟨told rfl rfl (by rw [hg58, cond_true]), hE61⟩
    · intro W41 hW42
      rintro _ rfl
      refine gather_nil ?_
      refine opg_f1 rfl rfl (fun hg62 => ?_) (fun h => by rw [h, cond_false])
      exact op_move rfl rfl ⟨told rfl rfl (by rw [hg62, cond_true]), (Below.refl _ _)⟩
    · intro W41 hW42
      rintro _ rfl
      intro v63 (hv64 : v63 = bif (!(!decide ((validB ⟨a, b⟩) = (validB ⟨a, b⟩)))) then (.slice A n c) else undef)
      refine gather_nil ?_
      refine opg_f1 rfl rfl (fun hg65 => ?_) (fun h => by rw [h, cond_false])
      obtain rfl : v63 = .slice A n c := by rw [hv64, hg65, cond_true]
      have hB66 : Below w.heap.size w W41 := (below_step (below_step hB38 hE40) hW42)
      refine op_call ent28 rfl (rValidSet_spec (hs.ext (flat_lifts _) hB66)) rfl ?_
      rintro _ W67 ⟨rfl, hE68⟩
      exact ⟨told rfl rfl (by rw [hg65, cond_true]), hE68⟩
    · intro W41 hW42
      rintro _ rfl
      intro v69 (hv70 : v69 = bif (!(!decide ((validB ⟨a, b⟩) = (validB ⟨a, b⟩)))) then (.bool (validSet s)) else undef)
      intro v71 (hv72 : v71 = bif (!(!decide ((validB ⟨a, b⟩) = (validB ⟨a, b⟩)))) then (.bool (validSet s)) else undef)
      refine gather_nil ?_
      refine opg_f1 rfl rfl (fun hg73 => ?_) (fun h => by rw [h, cond_false])
      obtain rfl : v69 = .bool (validSet s) := by rw [hv70, hg73, cond_true]
      obtain rfl : v71 = .bool (validSet s) := by rw [hv72, hg73, cond_true]
      exact op_neqb und4 rfl rfl rfl ⟨told rfl rfl (by rw [hg73, cond_true]), (Below.refl _ _)⟩
    · intro W41 hW42
      rintro _ rfl
      intro v74 (hv75 : v74 = bif (!(!decide ((validB ⟨a, b⟩) = (validB ⟨a, b⟩)))) then (.bool (!decide ((validSet s) = (validSet s)))) else undef)
      refine gather_nil ?_
      refine opg_none rfl ?_
      exact op_or rfl rfl rfl (fun h => by rw [hv75, (not_i h), cond_true]) rfl ⟨told rfl rfl rfl, (Below.refl _ _)⟩
    · intro W41 hW42
      rintro _ rfl
      refine gather_nil ?_
      refine opg_none rfl ?_
      exact op_move rfl rfl ⟨told rfl rfl rfl, (Below.refl _ _)⟩
    · intro W41 hW42
      rintro _ rfl
      refine gather_nil ?_
      refine opg_f1 rfl rfl (fun hg76 => ?_) (fun h => by rw [h, cond_false])
      exact op_move rfl rfl ⟨told rfl rfl (by rw [hg76, cond_true]), (Below.refl _ _)⟩
    · intro W41 hW42
      rintro _ rfl
      refine gather_nil ?_
      refine opg_f1 rfl rfl (fun hg77 => ?_) (fun h => by rw [h, cond_false])
      exact op_move rfl rfl ⟨told rfl rfl (by rw [hg77, cond_true]), (Below.refl _ _)⟩
    · intro W41 hW42
      rintro _ rfl
      intro v78 (hv79 : v78 = bif (!((!decide ((validB ⟨a, b⟩) = (validB ⟨a, b⟩))) || (!decide ((validSet s) = (validSet s))))) then (.slice A122 n123 c124) else undef)
      intro v80 (hv81 : v80 = bif (!((!decide ((validB ⟨a, b⟩) = (validB ⟨a, b⟩))) || (!decide ((validSet s) = (validSet s))))) then (.slice A129 n130 c131) else undef)
      refine gather_nil ?_
      refine opg_f1 rfl rfl (fun hg82 => ?_) (fun h => by rw [h, cond_false])
      obtain rfl : v78 = .slice A122 n123 c124 := by rw [hv79, hg82, cond_true]
      obtain rfl : v80 = .slice A129 n130 c131 := by rw [hv81, hg82, cond_true]
      have hB83 : Below W26.heap.size W26 W41 := (below_step (below_step (below_step (below_step (Below.refl _ _) hE34) hE37) hE40) hW42)
      have hB84 : Below W33.heap.size W33 W41 := (below_step (below_step (below_step (Below.refl _ _) hE37) hE40) hW42)
      refine op_call ent12 rfl (same_spec (hp25.ext (flat_lifts _) hB83) (hp32.ext (flat_lifts _) hB84)) rfl ?_
      rintro _ W85 ⟨rfl, hE86⟩
      exact ⟨told rfl rfl (by rw [hg82, cond_true]), hE86⟩
    · intro W41 hW42
      rintro _ rfl
      intro v87 (hv88 : v87 = bif (!((!decide ((validB ⟨a, b⟩) = (validB ⟨a, b⟩))) || (!decide ((validSet s) = (validSet s))))) then (.bool (decide ((ofL s) = (ofL s)))) else undef)
      refine gather_nil ?_
      refine opg_f1 rfl rfl (fun hg89 => ?_) (fun h => by rw [h, cond_false])
      obtain rfl : v87 = .bool (decide ((ofL s) = (ofL s))) := by rw [hv88, hg89, cond_true]
      exact op_not rfl rfl ⟨told rfl rfl (by rw [hg89, cond_true]), (Below.refl _ _)⟩
    · intro W41 hW42
      rintro _ rfl
      intro v90 (hv91 : v90 = bif (!((!decide ((validB ⟨a, b⟩) = (validB ⟨a, b⟩))) || (!decide ((validSet s) = (validSet s))))) then (.bool (!(decide ((ofL s) = (ofL s))))) else undef)
      refine gather_nil ?_
      refine opg_none rfl ?_
      exact op_or rfl rfl rfl (fun h => by rw [hv91, (not_i h), cond_true]) rfl ⟨told rfl rfl rfl, (Below.refl _ _)⟩
    · intro W41 hW42
      rintro _ rfl
      refine gather_nil ?_
      refine opg_none rfl ?_
      exact op_move rfl rfl ⟨told rfl rfl rfl, (Below.refl _ _)⟩
    · intro W41 hW42
      rintro _ rfl
      refine gather_nil ?_
      refine opg_f1 rfl rfl (fun hg92 => ?_) (fun h => by rw [h, cond_false])
      exact op_move rfl rfl ⟨told rfl rfl (by rw [hg92, cond_true]), (Below.refl _ _)⟩
    · intro W41 hW42
      rintro _ rfl
      refine gather_nil ?_
      refine opg_f1 rfl rfl (fun hg93 => ?_) (fun h => by rw [h, cond_false])
      exact op_move rfl rfl ⟨told rfl rfl (by rw [hg93, cond_true]), (Below.refl _ _)⟩
    · intro W41 hW42
      rintro _ rfl
      intro v94 (hv95 : v94 = bif (!(((!decide ((validB ⟨a, b⟩) = (validB ⟨a, b⟩))) || (!decide ((validSet s) = (validSet s)))) || (!(decide ((ofL s) = (ofL s)))))) then (.int .i64 (ofE s)) else undef)
      intro v96 (hv97 : v96 = bif (!(((!decide ((validB ⟨a, b⟩) = (validB ⟨a, b⟩))) || (!decide ((validSet s) = (validSet s)))) || (!(decide ((ofL s) = (ofL s)))))) then (.int .i64 (ofE s)) else undef)
      refine gather_nil ?_
      refine opg_f1 rfl rfl (fun hg98 => ?_) (fun h => by rw [h, cond_false])
      obtain rfl : v94 = .int .i64 (ofE s) := by rw [hv95, hg98, cond_true]
      obtain rfl : v96 = .int .i64 (ofE s) := by rw [hv97, hg98, cond_true]
      exact op_neq rfl rfl rfl ⟨told rfl rfl (by rw [hg98, cond_true]), (Below.refl _ _)⟩
    · intro W41 hW42
      rintro _ rfl
      intro v99 (hv100 : v99 = bif (!(((!decide ((validB ⟨a, b⟩) = (validB ⟨a, b⟩))) || (!decide ((validSet s) = (validSet s)))) || (!(decide ((ofL s) = (ofL s)))))) then (.bool (!decide (ofE s = ofE s))) else undef)
      refine gather_nil ?_
      refine opg_none rfl ?_
      exact op_or rfl rfl rfl (fun h => by rw [hv100, (not_i h), cond_true]) rfl ⟨told rfl rfl rfl, (Below.refl _ _)⟩
    · intro W41 hW42
      rintro _ rfl
      refine gather_nil ?_
      refine opg_none rfl ?_
      exact op_move rfl rfl ⟨told rfl rfl rfl, (Below.refl _ _)⟩
    · intro W41 hW42
      rintro _ rfl
      refine gather_nil ?_
      refine opg_f1 rfl rfl (fun hg101 => ?_) (fun h => by rw [h, cond_false])
      exact op_move rfl rfl ⟨told rfl rfl (by rw [hg101, cond_true]), (Below.refl _ _)⟩
    · intro W41 hW42
      rintro _ rfl
      refine gather_nil ?_
      refine opg_f1 rfl rfl (fun hg102 => ?_) (fun h => by rw [h, cond_false])
      exact op_move rfl rfl ⟨told rfl rfl (by rw [hg102, cond_true]), (Below.refl _ _)⟩
    · intro W41 hW42
      rintro _ rfl
      intro v103 (hv104 : v103 = bif (!((((!decide ((validB ⟨a, b⟩) = (validB ⟨a, b⟩))) || (!decide ((validSet s) = (validSet s)))) || (!(decide ((ofL s) = (ofL s))))) || (!decide (ofE s = ofE s)))) then (.int .i64 (getV s q)) else undef)
      intro v105 (hv106 : v105 = bif (!((((!decide ((validB ⟨a, b⟩) = (validB ⟨a, b⟩))) || (!decide ((validSet s) = (validSet s)))) || (!(decide ((ofL s) = (ofL s))))) || (!decide (ofE s = ofE s)))) then (.int .i64 (getV s q)) else undef)
      refine gather_nil ?_
      refine opg_f1 rfl rfl (fun hg107 => ?_) (fun h => by rw [h, cond_false])
      obtain rfl : v103 = .int .i64 (getV s q) := by rw [hv104, hg107, cond_true]
      obtain rfl : v105 = .int .i64 (getV s q) := by rw [hv106, hg107, cond_true]
      exact op_neq rfl rfl rfl ⟨told rfl rfl (by rw [hg107, cond_true]), (Below.refl _ _)⟩
    · intro W41 hW42
      rintro _ rfl
      intro v108 (hv109 : v108 = bif (!((((!decide ((validB ⟨a, b⟩) = (validB ⟨a, b⟩))) || (!decide ((validSet s) = (validSet s)))) || (!(decide ((ofL s) = (ofL s))))) || (!decide (ofE s = ofE s)))) then (.bool (!decide (getV s q = getV s q))) else undef)
      refine gather_nil ?_
      refine opg_none rfl ?_
      exact op_or rfl rfl rfl (fun h => by rw [hv109, (not_i h), cond_true]) rfl ⟨told rfl rfl rfl, (Below.refl _ _)⟩
    · intro W41 hW42
      rintro _ rfl
      refine gather_nil ?_
      refine opg_none rfl ?_
      exact op_move rfl rfl ⟨told rfl rfl rfl, (Below.refl _ _)⟩
    · intro W41 hW42
      rintro _ rfl
      refine gather_nil ?_
      refine opg_f1 rfl rfl (fun hg110 => ?_) (fun h => by rw [h, cond_false])
      exact op_move rfl rfl ⟨told rfl rfl (by rw [hg110, cond_true]), (Below.refl _ _)⟩
    · intro W41 hW42
      rintro _ rfl
      refine gather_nil ?_
      refine opg_f1 rfl rfl (fun hg111 => ?_) (fun h => by rw [h, cond_false])
      exact op_move rfl rfl ⟨told rfl rfl (by rw [hg111, cond_true]), (Below.refl _ _)⟩
    · intro W41 hW42
      rintro _ rfl
      intro v112 (hv113 : v112 = bif (!(((((!decide ((validB ⟨a, b⟩) = (validB ⟨a, b⟩))) || (!decide ((validSet s) = (validSet s)))) || (!(decide ((ofL s) = (ofL s))))) || (!decide (ofE s = ofE s))) || (!decide (getV s q = getV s q)))) then (.int .i64 (getE s q)) else undef)
      intro v114 (hv115 : v114 = bif (!(((((!decide ((validB ⟨a, b⟩) = (validB ⟨a, b⟩))) || (!decide ((validSet s) = (validSet s)))) || (!(decide ((ofL s) = (ofL s))))) || (!decide (ofE s = ofE s))) || (!decide (getV s q = getV s q)))) then (.int .i64 (getE s q)) else undef)
      refine gather_nil ?_
      refine opg_f1 rfl rfl (fun hg116 => ?_) (fun h => by rw [h, cond_false])
      obtain rfl : v112 = .int .i64 (getE s q) := by rw [hv113, hg116, cond_true]
      obtain rfl : v114 = .int .i64 (getE s q) := by rw [hv115, hg116, cond_true]
      exact op_neq rfl rfl rfl ⟨told rfl rfl (by rw [hg116, cond_true]), (Below.refl _ _)⟩
    · intro W41 hW42
      rintro _ rfl
      intro v117 (hv118 : v117 = bif (!(((((!decide ((validB ⟨a, b⟩) = (validB ⟨a, b⟩))) || (!decide ((validSet s) = (validSet s)))) || (!(decide ((ofL s) = (ofL s))))) || (!decide (ofE s = ofE s))) || (!decide (getV s q = getV s q)))) then (.bool (!decide (getE s q = getE s q))) else undef)
      refine gather_nil ?_
      refine opg_none rfl ?_
      exact op_or rfl rfl rfl (fun h => by rw [hv118, (not_i h), cond_true]) rfl ⟨told rfl rfl rfl, (Below.refl _ _)⟩
    intro W119 hW120
    rintro _ rfl
    refine gather_nil ?_
    refine (then_norm ?_)
    refine wc_cond (b := (((((!decide ((validB ⟨a, b⟩) = (validB ⟨a, b⟩))) || (!decide ((validSet s) = (validSet s)))) || (!(decide ((ofL s) = (ofL s))))) || (!decide (ofE s = ofE s))) || (!decide (getV s q = getV s q))) || (!decide (getE s q = getE s q))) rfl (fun hc121 => ?_) (fun hc121 => ?_)
    · exfalso
      simp at hc121
    · refine wc_skip ?_
      refine (then_norm ?_)
      refine wc_seq ?_
      refine wc_region ?_
      refine wl_op rfl (op_move rfl rfl ?_)
      refine wl_op rfl (op_call ent29 rfl (Default_spec) rfl ?_)
      rintro _ W122 ⟨rfl, hE123⟩
      refine wl_op rfl (op_move rfl rfl ?_)
      refine wl_op rfl (op_extract (v := .int .i64 (getV [] q)) rfl rfl rfl ?_)
      refine wl_op rfl (op_extract (v := .int .i64 (getE [] q)) rfl rfl rfl ?_)
      refine wl_op rfl (op_assign rfl rfl ?_)
      refine wl_op rfl (op_assign rfl rfl ?_)
      refine (wl_done (then_norm ?_))
      refine WC.sub [(0, .slice A n c), (2, .int .i64 q), (4, .pointer (some ⟨b8, 0, none⟩)), (6, .bool false), (7, .slice A122 n123 c124), (8, .int .i64 (ofE s)), (9, .slice A129 n130 c131), (10, .int .i64 (ofE s)), (11, .int .i64 (getV [] q)), (12, .int .i64 (getE [] q)), (13, .int .i64 (getV s q)), (14, .int .i64 (getE s q))] ⟨rfl, rfl, rfl, rfl, rfl, rfl, rfl, rfl, rfl, rfl, rfl, rfl, trivial⟩ ?_
      refine wc_seq ?_
      refine wc_seq ?_
      refine wc_region ?_
      refine wl_op rfl (op_move rfl rfl ?_)
      refine wl_op rfl (op_call ent24 rfl (rGet_spec (rd_nil _ _ _)) rfl ?_)
      rintro _ W124 ⟨rfl, hE125⟩
      refine wl_op rfl (op_move rfl rfl ?_)
      refine wl_op rfl (op_extract (v := .int .i64 (getV [] q)) rfl rfl rfl ?_)
      refine wl_op rfl (op_extract (v := .int .i64 (getE [] q)) rfl rfl rfl ?_)
      refine wl_op rfl (op_assign rfl rfl ?_)
      refine wl_op rfl (op_assign rfl rfl ?_)
      refine (wl_done (then_norm ?_))
      refine wc_seq ?_
      refine wc_text [(0, .slice A n c), (2, .int .i64 q), (4, .pointer (some ⟨b8, 0, none⟩)), (6, .bool false), (7, .slice A122 n123 c124), (8, .int .i64 (ofE s)), (9, .slice A129 n130 c131), (10, .int .i64 (ofE s)), (11, .int .i64 (getV [] q)), (12, .int .i64 (getE [] q)), (13, .int .i64 (getV [] q)), (14, .int .i64 (getE [] q))] ⟨rfl, rfl, rfl, rfl, rfl, rfl, rfl, rfl, rfl, rfl, rfl, rfl, trivial⟩ [fun v _ => v = .int .i64 (getV [] q), fun v _ => v = .int .i64 (getV [] q), fun v _ => v = .bool (!decide (getV [] q = getV [] q)), fun v _ => v = .bool (!decide (getV [] q = getV [] q)), fun v _ => v = (bif (!(!decide (getV [] q = getV [] q))) then (.int .i64 (getE [] q)) else undef), fun v _ => v = (bif (!(!decide (getV [] q = getV [] q))) then (.int .i64 (getE [] q)) else undef), fun v _ => v = (bif (!(!decide (getV [] q = getV [] q))) then (.bool (!decide (getE [] q = getE [] q))) else undef), fun v _ => v = .bool ((!decide (getV [] q = getV [] q)) || (!decide (getE [] q = getE [] q)))] [[], [], [0, 1], [2], [3], [3], [3, 4, 5], [3, 6]] [7] rfl rfl rfl ⟨fun _ _ _ _ h => h, fun _ _ _ _ h => h, fun _ _ _ _ h => h, fun _ _ _ _ h => h, fun _ _ _ _ h => h, fun _ _ _ _ h => h, fun _ _ _ _ h => h, fun _ _ _ _ h => h, trivial⟩ ⟨?_, ?_, ?_, ?_, ?_, ?_, ?_, ?_, trivial⟩ ?_
      · intro W126 hW127
        refine gather_nil ?_
        refine opg_none rfl ?_
        exact op_move rfl rfl ⟨told rfl rfl rfl, (Below.refl _ _)⟩
      · intro W126 hW127
        refine gather_nil ?_
        refine opg_none rfl ?_
        exact op_move rfl rfl ⟨told rfl rfl rfl, (Below.refl _ _)⟩
      · intro W126 hW127
        rintro _ rfl
        rintro _ rfl
        refine gather_nil ?_
        refine opg_none rfl ?_
        exact op_neq rfl rfl rfl ⟨told rfl rfl rfl, (Below.refl _ _)⟩
      · intro W126 hW127
        rintro _ rfl
        refine gather_nil ?_
        refine opg_none rfl ?_
        exact op_move rfl rfl ⟨told rfl rfl rfl, (Below.refl _ _)⟩
      · intro W126 hW127
        rintro _ rfl
        refine gather_nil ?_
        refine opg_f1 rfl rfl (fun hg128 => ?_) (fun h => by rw [h, cond_false])
        exact op_move rfl rfl ⟨told rfl rfl (by rw [hg128, cond_true]), (Below.refl _ _)⟩
      · intro W126 hW127
        rintro _ rfl
        refine gather_nil ?_
        refine opg_f1 rfl rfl (fun hg129 => ?_) (fun h => by rw [h, cond_false])
        exact op_move rfl rfl ⟨told rfl rfl (by rw [hg129, cond_true]), (Below.refl _ _)⟩
      · intro W126 hW127
        rintro _ rfl
        intro v130 (hv131 : v130 = bif (!(!decide (getV [] q = getV [] q))) then (.int .i64 (getE [] q)) else undef)
        intro v132 (hv133 : v132 = bif (!(!decide (getV [] q = getV [] q))) then (.int .i64 (getE [] q)) else undef)
        refine gather_nil ?_
        refine opg_f1 rfl rfl (fun hg134 => ?_) (fun h => by rw [h, cond_false])
        obtain rfl : v130 = .int .i64 (getE [] q) := by rw [hv131, hg134, cond_true]
        obtain rfl : v132 = .int .i64 (getE [] q) := by rw [hv133, hg134, cond_true]
        exact op_neq rfl rfl rfl ⟨told rfl rfl (by rw [hg134, cond_true]), (Below.refl _ _)⟩
      · intro W126 hW127
        rintro _ rfl
        intro v135 (hv136 : v135 = bif (!(!decide (getV [] q = getV [] q))) then (.bool (!decide (getE [] q = getE [] q))) else undef)
        refine gather_nil ?_
        refine opg_none rfl ?_
        exact op_or rfl rfl rfl (fun h => by rw [hv136, (not_i h), cond_true]) rfl ⟨told rfl rfl rfl, (Below.refl _ _)⟩
      intro W137 hW138
      rintro _ rfl
      refine gather_nil ?_
      refine (then_norm ?_)
      refine wc_cond (b := (!decide (getV [] q = getV [] q)) || (!decide (getE [] q = getE [] q))) rfl (fun hc139 => ?_) (fun hc139 => ?_)
      · exfalso
        simp at hc139
      · refine wc_skip ?_
        refine (then_norm ?_)
        refine wc_seq ?_
        refine wc_region ?_
        refine wl_op rfl (op_move rfl rfl ?_)
        have hb140 : W137.heap[b8]? = some (.cells #[.int .i64 a, .int .i64 b] 46 (0, 0)) := (blk_ext (blk_ext (blk_ext (blk_ext (blk_ext (blk_ext (blk_ext (blk_ext (blk_ext (blk_ext hb10 hN13.ext) hE16) hE27) hE34) hE37) hE40) hW120) hE123) hE125) hW138)
        refine wl_op rfl (op_loadN (vs := [.int .i64 a, .int .i64 b]) rfl agg46 sz46 rfl (cells_blk hb140) rfl ?_)
        have hB141 : Below w.heap.size w W137 := (below_step (below_step (below_step (below_step (below_step hB38 hE40) hW120) hE123) hE125) hW138)
        refine wl_op rfl (op_call ent30 rfl (Put_spec (hs.ext (flat_lifts _) hB141) (by omega) (by omega)) rfl ?_)
        rintro _ W146 ⟨A1142, n1143, c1144, rfl, hp145, hE147⟩
        refine wl_op rfl (op_move rfl rfl ?_)
        refine wl_op rfl (op_extract (v := .slice A1142 n1143 c1144) rfl rfl rfl ?_)
        refine wl_op rfl (op_extract (v := .int .i64 (putE s ⟨a, b⟩)) rfl rfl rfl ?_)
        refine wl_op rfl (op_assign rfl rfl ?_)
        refine wl_op rfl (op_assign rfl rfl ?_)
        refine (wl_done (then_norm ?_))
        refine WC.sub [(0, .slice A n c), (2, .int .i64 q), (4, .pointer (some ⟨b8, 0, none⟩)), (6, .bool false), (7, .slice A1142 n1143 c1144), (8, .int .i64 (putE s ⟨a, b⟩)), (9, .slice A129 n130 c131), (10, .int .i64 (ofE s))] ⟨rfl, rfl, rfl, rfl, rfl, rfl, rfl, rfl, trivial⟩ ?_
        refine wc_seq ?_
        refine wc_seq ?_
        refine wc_region ?_
        refine wl_op rfl (op_move rfl rfl ?_)
        have hb148 : W146.heap[b8]? = some (.cells #[.int .i64 a, .int .i64 b] 46 (0, 0)) := (blk_ext hb140 hE147)
        refine wl_op rfl (op_loadN (vs := [.int .i64 a, .int .i64 b]) rfl agg46 sz46 rfl (cells_blk hb148) rfl ?_)
        have hB149 : Below w.heap.size w W146 := (below_step hB141 hE147)
        refine wl_op rfl (op_call ent31 rfl (rPut_spec (hs.ext (flat_lifts _) hB149) (by omega)) rfl ?_)
        rintro _ W154 ⟨A1150, n1151, c1152, rfl, hp153, hE155⟩
        refine wl_op rfl (op_move rfl rfl ?_)
        refine wl_op rfl (op_extract (v := .slice A1150 n1151 c1152) rfl rfl rfl ?_)
        refine wl_op rfl (op_extract (v := .int .i64 (overE s [⟨a, b⟩])) rfl rfl rfl ?_)
        refine wl_op rfl (op_assign rfl rfl ?_)
        refine wl_op rfl (op_assign rfl rfl ?_)
        refine (wl_done (then_norm ?_))
        refine WC.sub [(0, .slice A n c), (2, .int .i64 q), (6, .bool false), (7, .slice A1142 n1143 c1144), (8, .int .i64 (putE s ⟨a, b⟩)), (9, .slice A1150 n1151 c1152), (10, .int .i64 (overE s [⟨a, b⟩]))] ⟨rfl, rfl, rfl, rfl, rfl, rfl, rfl, trivial⟩ ?_
        refine wc_seq ?_
        refine wc_text [(0, .slice A n c), (2, .int .i64 q), (6, .bool false), (7, .slice A1142 n1143 c1144), (8, .int .i64 (putE s ⟨a, b⟩)), (9, .slice A1150 n1151 c1152), (10, .int .i64 (overE s [⟨a, b⟩]))] ⟨rfl, rfl, rfl, rfl, rfl, rfl, rfl, trivial⟩ [fun v _ => v = .slice A1142 n1143 c1144, fun v _ => v = .slice A1150 n1151 c1152, fun v _ => v = .bool (decide ((putL s ⟨a, b⟩) = (rPutL s ⟨a, b⟩))), fun v _ => v = .bool (!(decide ((putL s ⟨a, b⟩) = (rPutL s ⟨a, b⟩)))), fun v _ => v = .bool (!(decide ((putL s ⟨a, b⟩) = (rPutL s ⟨a, b⟩)))), fun v _ => v = (bif (!(!(decide ((putL s ⟨a, b⟩) = (rPutL s ⟨a, b⟩))))) then (.int .i64 (putE s ⟨a, b⟩)) else undef), fun v _ => v = (bif (!(!(decide ((putL s ⟨a, b⟩) = (rPutL s ⟨a, b⟩))))) then (.int .i64 (overE s [⟨a, b⟩])) else undef), fun v _ => v = (bif (!(!(decide ((putL s ⟨a, b⟩) = (rPutL s ⟨a, b⟩))))) then (.bool (!decide (putE s ⟨a, b⟩ = overE s [⟨a, b⟩]))) else undef), fun v _ => v = .bool ((!(decide ((putL s ⟨a, b⟩) = (rPutL s ⟨a, b⟩)))) || (!decide (putE s ⟨a, b⟩ = overE s [⟨a, b⟩])))] [[], [], [0, 1], [2], [3], [4], [4], [4, 5, 6], [4, 7]] [8] rfl rfl rfl ⟨fun _ _ _ _ h => h, fun _ _ _ _ h => h, fun _ _ _ _ h => h, fun _ _ _ _ h => h, fun _ _ _ _ h => h, fun _ _ _ _ h => h, fun _ _ _ _ h => h, fun _ _ _ _ h => h, fun _ _ _ _ h => h, trivial⟩ ⟨?_, ?_, ?_, ?_, ?_, ?_, ?_, ?_, ?_, trivial⟩ ?_
        · intro W156 hW157
          refine gather_nil ?_
          refine opg_none rfl ?_
          exact op_move rfl rfl ⟨told rfl rfl rfl, (Below.refl _ _)⟩
        · intro W156 hW157
          refine gather_nil ?_
          refine opg_none rfl ?_
          exact op_move rfl rfl ⟨told rfl rfl rfl, (Below.refl _ _)⟩
        · intro W156 hW157
          rintro _ rfl
          rintro _ rfl
          refine gather_nil ?_
          refine opg_none rfl ?_
          have hB160 : Below W146.heap.size W146 W156 := (below_step (below_step (Below.refl _ _) hE155) hW157)
          have hB161 : Below W154.heap.size W154 W156 := (below_step (Below.refl _ _) hW157)
          refine op_call ent12 rfl (same_spec (hp145.ext (flat_lifts _) hB160) (hp153.ext (flat_lifts _) hB161)) rfl ?_
          rintro _ W162 ⟨rfl, hE163⟩
          exact ⟨told rfl rfl rfl, hE163⟩
        · intro W156 hW157
          rintro _ rfl
          refine gather_nil ?_
          refine opg_none rfl ?_
          exact op_not rfl rfl ⟨told rfl rfl rfl, (Below.refl _ _)⟩
        · intro W156 hW157
          rintro _ rfl
          refine gather_nil ?_
          refine opg_none rfl ?_
          exact op_move rfl rfl ⟨told rfl rfl rfl, (Below.refl _ _)⟩
        · intro W156 hW157
          rintro _ rfl
          refine gather_nil ?_
          refine opg_f1 rfl rfl (fun hg164 => ?_) (fun h => by rw [h, cond_false])
          exact op_move rfl rfl ⟨told rfl rfl (by rw [hg164, cond_true]), (Below.refl _ _)⟩
        · intro W156 hW157
          rintro _ rfl
          refine gather_nil ?_
          refine opg_f1 rfl rfl (fun hg165 => ?_) (fun h => by rw [h, cond_false])
          exact op_move rfl rfl ⟨told rfl rfl (by rw [hg165, cond_true]), (Below.refl _ _)⟩
        · intro W156 hW157
          rintro _ rfl
          intro v166 (hv167 : v166 = bif (!(!(decide ((putL s ⟨a, b⟩) = (rPutL s ⟨a, b⟩))))) then (.int .i64 (putE s ⟨a, b⟩)) else undef)
          intro v168 (hv169 : v168 = bif (!(!(decide ((putL s ⟨a, b⟩) = (rPutL s ⟨a, b⟩))))) then (.int .i64 (overE s [⟨a, b⟩])) else undef)
          refine gather_nil ?_
          refine opg_f1 rfl rfl (fun hg170 => ?_) (fun h => by rw [h, cond_false])
          obtain rfl : v166 = .int .i64 (putE s ⟨a, b⟩) := by rw [hv167, hg170, cond_true]
          obtain rfl : v168 = .int .i64 (overE s [⟨a, b⟩]) := by rw [hv169, hg170, cond_true]
          exact op_neq rfl rfl rfl ⟨told rfl rfl (by rw [hg170, cond_true]), (Below.refl _ _)⟩
        · intro W156 hW157
          rintro _ rfl
          intro v171 (hv172 : v171 = bif (!(!(decide ((putL s ⟨a, b⟩) = (rPutL s ⟨a, b⟩))))) then (.bool (!decide (putE s ⟨a, b⟩ = overE s [⟨a, b⟩]))) else undef)
          refine gather_nil ?_
          refine opg_none rfl ?_
          exact op_or rfl rfl rfl (fun h => by rw [hv172, (not_i h), cond_true]) rfl ⟨told rfl rfl rfl, (Below.refl _ _)⟩
        intro W173 hW174
        rintro _ rfl
        refine gather_nil ?_
        refine (then_norm ?_)
        refine wc_cond (b := (!(decide ((putL s ⟨a, b⟩) = (rPutL s ⟨a, b⟩)))) || (!decide (putE s ⟨a, b⟩ = overE s [⟨a, b⟩]))) rfl (fun hc175 => ?_) (fun hc175 => ?_)
        · exfalso
          rw [(put_eq s ⟨a, b⟩).1, (put_eq s ⟨a, b⟩).2] at hc175
          simp at hc175
        · refine wc_skip ?_
          refine (then_norm ?_)
          refine wc_seq ?_
          refine wc_region ?_
          refine wl_op rfl (op_move rfl rfl ?_)
          refine wl_op rfl (op_move rfl rfl ?_)
          have hB176 : Below w.heap.size w W173 := (below_step (below_step hB149 hE155) hW174)
          refine wl_op rfl (op_call ent32 rfl (Without_spec (hs.ext (flat_lifts _) hB176) (by omega)) rfl ?_)
          rintro _ W181 ⟨A1177, n1178, c1179, rfl, hp180, hE182⟩
          refine wl_op rfl (op_move rfl rfl ?_)
          refine wl_op rfl (op_extract (v := .slice A1177 n1178 c1179) rfl rfl rfl ?_)
          refine wl_op rfl (op_extract (v := .int .i64 (getE s q)) rfl rfl rfl ?_)
          refine wl_op rfl (op_assign rfl rfl ?_)
          refine wl_op rfl (op_assign rfl rfl ?_)
          refine (wl_done (then_norm ?_))
          refine WC.sub [(0, .slice A n c), (2, .int .i64 q), (6, .bool false), (7, .slice A1177 n1178 c1179), (8, .int .i64 (getE s q)), (9, .slice A1150 n1151 c1152), (10, .int .i64 (overE s [⟨a, b⟩]))] ⟨rfl, rfl, rfl, rfl, rfl, rfl, rfl, trivial⟩ ?_
          refine wc_seq ?_
          refine wc_seq ?_
          refine wc_region ?_
          refine wl_op rfl (op_move rfl rfl ?_)
          refine wl_op rfl (op_move rfl rfl ?_)
          have hB183 : Below w.heap.size w W181 := (below_step hB176 hE182)
          refine wl_op rfl (op_call ent33 rfl (rWithout_spec (hs.ext (flat_lifts _) hB183) (by omega)) rfl ?_)
          rintro _ W188 ⟨A1184, n1185, c1186, rfl, hp187, hE189⟩
          refine wl_op rfl (op_move rfl rfl ?_)
          refine wl_op rfl (op_extract (v := .slice A1184 n1185 c1186) rfl rfl rfl ?_)
          refine wl_op rfl (op_extract (v := .int .i64 (getE s q)) rfl rfl rfl ?_)
          refine wl_op rfl (op_assign rfl rfl ?_)
          refine wl_op rfl (op_assign rfl rfl ?_)
          refine (wl_done (then_norm ?_))
          refine WC.sub [(0, .slice A n c), (6, .bool false), (7, .slice A1177 n1178 c1179), (8, .int .i64 (getE s q)), (9, .slice A1184 n1185 c1186), (10, .int .i64 (getE s q))] ⟨rfl, rfl, rfl, rfl, rfl, rfl, trivial⟩ ?_
          refine wc_seq ?_
          refine wc_text [(0, .slice A n c), (6, .bool false), (7, .slice A1177 n1178 c1179), (8, .int .i64 (getE s q)), (9, .slice A1184 n1185 c1186), (10, .int .i64 (getE s q))] ⟨rfl, rfl, rfl, rfl, rfl, rfl, trivial⟩ [fun v _ => v = .slice A1177 n1178 c1179, fun v _ => v = .slice A1184 n1185 c1186, fun v _ => v = .bool (decide ((withoutL s q) = (withoutL s q))), fun v _ => v = .bool (!(decide ((withoutL s q) = (withoutL s q)))), fun v _ => v = .bool (!(decide ((withoutL s q) = (withoutL s q)))), fun v _ => v = (bif (!(!(decide ((withoutL s q) = (withoutL s q))))) then (.int .i64 (getE s q)) else undef), fun v _ => v = (bif (!(!(decide ((withoutL s q) = (withoutL s q))))) then (.int .i64 (getE s q)) else undef), fun v _ => v = (bif (!(!(decide ((withoutL s q) = (withoutL s q))))) then (.bool (!decide (getE s q = getE s q))) else undef), fun v _ => v = .bool ((!(decide ((withoutL s q) = (withoutL s q)))) || (!decide (getE s q = getE s q)))] [[], [], [0, 1], [2], [3], [4], [4], [4, 5, 6], [4, 7]] [8] rfl rfl rfl ⟨fun _ _ _ _ h => h, fun _ _ _ _ h => h, fun _ _ _ _ h => h, fun _ _ _ _ h => h, fun _ _ _ _ h => h, fun _ _ _ _ h => h, fun _ _ _ _ h => h, fun _ _ _ _ h => h, fun _ _ _ _ h => h, trivial⟩ ⟨?_, ?_, ?_, ?_, ?_, ?_, ?_, ?_, ?_, trivial⟩ ?_
          · intro W190 hW191
            refine gather_nil ?_
            refine opg_none rfl ?_
            exact op_move rfl rfl ⟨told rfl rfl rfl, (Below.refl _ _)⟩
          · intro W190 hW191
            refine gather_nil ?_
            refine opg_none rfl ?_
            exact op_move rfl rfl ⟨told rfl rfl rfl, (Below.refl _ _)⟩
          · intro W190 hW191
            rintro _ rfl
            rintro _ rfl
            refine gather_nil ?_
            refine opg_none rfl ?_
            have hB194 : Below W181.heap.size W181 W190 := (below_step (below_step (Below.refl _ _) hE189) hW191)
            have hB195 : Below W188.heap.size W188 W190 := (below_step (Below.refl _ _) hW191)
            refine op_call ent12 rfl (same_spec (hp180.ext (flat_lifts _) hB194) (hp187.ext (flat_lifts _) hB195)) rfl ?_
            rintro _ W196 ⟨rfl, hE197⟩
            exact ⟨told rfl rfl rfl, hE197⟩
          · intro W190 hW191
            rintro _ rfl
            refine gather_nil ?_
            refine opg_none rfl ?_
            exact op_not rfl rfl ⟨told rfl rfl rfl, (Below.refl _ _)⟩
          · intro W190 hW191
            rintro _ rfl
            refine gather_nil ?_
            refine opg_none rfl ?_
            exact op_move rfl rfl ⟨told rfl rfl rfl, (Below.refl _ _)⟩
          · intro W190 hW191
            rintro _ rfl
            refine gather_nil ?_
            refine opg_f1 rfl rfl (fun hg198 => ?_) (fun h => by rw [h, cond_false])
            exact op_move rfl rfl ⟨told rfl rfl (by rw [hg198, cond_true]), (Below.refl _ _)⟩
          · intro W190 hW191
            rintro _ rfl
            refine gather_nil ?_
            refine opg_f1 rfl rfl (fun hg199 => ?_) (fun h => by rw [h, cond_false])
            exact op_move rfl rfl ⟨told rfl rfl (by rw [hg199, cond_true]), (Below.refl _ _)⟩
          · intro W190 hW191
            rintro _ rfl
            intro v200 (hv201 : v200 = bif (!(!(decide ((withoutL s q) = (withoutL s q))))) then (.int .i64 (getE s q)) else undef)
            intro v202 (hv203 : v202 = bif (!(!(decide ((withoutL s q) = (withoutL s q))))) then (.int .i64 (getE s q)) else undef)
            refine gather_nil ?_
            refine opg_f1 rfl rfl (fun hg204 => ?_) (fun h => by rw [h, cond_false])
            obtain rfl : v200 = .int .i64 (getE s q) := by rw [hv201, hg204, cond_true]
            obtain rfl : v202 = .int .i64 (getE s q) := by rw [hv203, hg204, cond_true]
            exact op_neq rfl rfl rfl ⟨told rfl rfl (by rw [hg204, cond_true]), (Below.refl _ _)⟩
          · intro W190 hW191
            rintro _ rfl
            intro v205 (hv206 : v205 = bif (!(!(decide ((withoutL s q) = (withoutL s q))))) then (.bool (!decide (getE s q = getE s q))) else undef)
            refine gather_nil ?_
            refine opg_none rfl ?_
            exact op_or rfl rfl rfl (fun h => by rw [hv206, (not_i h), cond_true]) rfl ⟨told rfl rfl rfl, (Below.refl _ _)⟩
          intro W207 hW208
          rintro _ rfl
          refine gather_nil ?_
          refine (then_norm ?_)
          refine wc_cond (b := (!(decide ((withoutL s q) = (withoutL s q)))) || (!decide (getE s q = getE s q))) rfl (fun hc209 => ?_) (fun hc209 => ?_)
          · exfalso
            simp at hc209
          · refine wc_skip ?_
            refine (then_norm ?_)
            refine wc_seq ?_
            refine wc_region ?_
            refine wl_op rfl (op_move rfl rfl ?_)
            have hB210 : Below w.heap.size w W207 := (below_step (below_step hB183 hE189) hW208)
            refine wl_op rfl (op_call ent34 rfl (Adapters_spec (hs.ext (flat_lifts _) hB210) (by omega)) rfl ?_)
            rintro _ W215 ⟨A1211, n1212, c1213, rfl, hp214, hE216⟩
            refine wl_op rfl (op_move rfl rfl ?_)
            refine wl_op rfl (op_extract (v := .slice A1211 n1212 c1213) rfl rfl rfl ?_)
            refine wl_op rfl (op_extract (v := .int .i64 (chosenE s)) rfl rfl rfl ?_)
            refine wl_op rfl (op_assign rfl rfl ?_)
            refine wl_op rfl (op_assign rfl rfl ?_)
            refine (wl_done (then_norm ?_))
            refine WC.sub [(0, .slice A n c), (6, .bool false), (7, .slice A1211 n1212 c1213), (8, .int .i64 (chosenE s)), (9, .slice A1184 n1185 c1186), (10, .int .i64 (getE s q))] ⟨rfl, rfl, rfl, rfl, rfl, rfl, trivial⟩ ?_
            refine wc_seq ?_
            refine wc_seq ?_
            refine wc_region ?_
            refine wl_op rfl (op_move rfl rfl ?_)
            have hB217 : Below w.heap.size w W215 := (below_step hB210 hE216)
            refine wl_op rfl (op_call ent35 rfl (rAdapters_spec (hs.ext (flat_lifts _) hB217) (by omega)) rfl ?_)
            rintro _ W222 ⟨A1218, n1219, c1220, rfl, hp221, hE223⟩
            refine wl_op rfl (op_move rfl rfl ?_)
            refine wl_op rfl (op_extract (v := .slice A1218 n1219 c1220) rfl rfl rfl ?_)
            refine wl_op rfl (op_extract (v := .int .i64 (chosenE s)) rfl rfl rfl ?_)
            refine wl_op rfl (op_assign rfl rfl ?_)
            refine wl_op rfl (op_assign rfl rfl ?_)
            refine (wl_done (then_norm ?_))
            refine wc_seq ?_
            refine wc_text [(0, .slice A n c), (6, .bool false), (7, .slice A1211 n1212 c1213), (8, .int .i64 (chosenE s)), (9, .slice A1218 n1219 c1220), (10, .int .i64 (chosenE s))] ⟨rfl, rfl, rfl, rfl, rfl, rfl, trivial⟩ [fun v _ => v = .slice A1211 n1212 c1213, fun v _ => v = .slice A1218 n1219 c1220, fun v _ => v = .bool (decide ((chosenL s keepAd) = (chosenL s keepAd))), fun v _ => v = .bool (!(decide ((chosenL s keepAd) = (chosenL s keepAd)))), fun v _ => v = .bool (!(decide ((chosenL s keepAd) = (chosenL s keepAd)))), fun v _ => v = (bif (!(!(decide ((chosenL s keepAd) = (chosenL s keepAd))))) then (.int .i64 (chosenE s)) else undef), fun v _ => v = (bif (!(!(decide ((chosenL s keepAd) = (chosenL s keepAd))))) then (.int .i64 (chosenE s)) else undef), fun v _ => v = (bif (!(!(decide ((chosenL s keepAd) = (chosenL s keepAd))))) then (.bool (!decide (chosenE s = chosenE s))) else undef), fun v _ => v = .bool ((!(decide ((chosenL s keepAd) = (chosenL s keepAd)))) || (!decide (chosenE s = chosenE s)))] [[], [], [0, 1], [2], [3], [4], [4], [4, 5, 6], [4, 7]] [8] rfl rfl rfl ⟨fun _ _ _ _ h => h, fun _ _ _ _ h => h, fun _ _ _ _ h => h, fun _ _ _ _ h => h, fun _ _ _ _ h => h, fun _ _ _ _ h => h, fun _ _ _ _ h => h, fun _ _ _ _ h => h, fun _ _ _ _ h => h, trivial⟩ ⟨?_, ?_, ?_, ?_, ?_, ?_, ?_, ?_, ?_, trivial⟩ ?_
            · intro W224 hW225
              refine gather_nil ?_
              refine opg_none rfl ?_
              exact op_move rfl rfl ⟨told rfl rfl rfl, (Below.refl _ _)⟩
            · intro W224 hW225
              refine gather_nil ?_
              refine opg_none rfl ?_
              exact op_move rfl rfl ⟨told rfl rfl rfl, (Below.refl _ _)⟩
            · intro W224 hW225
              rintro _ rfl
              rintro _ rfl
              refine gather_nil ?_
              refine opg_none rfl ?_
              have hB228 : Below W215.heap.size W215 W224 := (below_step (below_step (Below.refl _ _) hE223) hW225)
              have hB229 : Below W222.heap.size W222 W224 := (below_step (Below.refl _ _) hW225)
              refine op_call ent12 rfl (same_spec (hp214.ext (flat_lifts _) hB228) (hp221.ext (flat_lifts _) hB229)) rfl ?_
              rintro _ W230 ⟨rfl, hE231⟩
              exact ⟨told rfl rfl rfl, hE231⟩
            · intro W224 hW225
              rintro _ rfl
              refine gather_nil ?_
              refine opg_none rfl ?_
              exact op_not rfl rfl ⟨told rfl rfl rfl, (Below.refl _ _)⟩
            · intro W224 hW225
              rintro _ rfl
              refine gather_nil ?_
              refine opg_none rfl ?_
              exact op_move rfl rfl ⟨told rfl rfl rfl, (Below.refl _ _)⟩
            · intro W224 hW225
              rintro _ rfl
              refine gather_nil ?_
              refine opg_f1 rfl rfl (fun hg232 => ?_) (fun h => by rw [h, cond_false])
              exact op_move rfl rfl ⟨told rfl rfl (by rw [hg232, cond_true]), (Below.refl _ _)⟩
            · intro W224 hW225
              rintro _ rfl
              refine gather_nil ?_
              refine opg_f1 rfl rfl (fun hg233 => ?_) (fun h => by rw [h, cond_false])
              exact op_move rfl rfl ⟨told rfl rfl (by rw [hg233, cond_true]), (Below.refl _ _)⟩
            · intro W224 hW225
              rintro _ rfl
              intro v234 (hv235 : v234 = bif (!(!(decide ((chosenL s keepAd) = (chosenL s keepAd))))) then (.int .i64 (chosenE s)) else undef)
              intro v236 (hv237 : v236 = bif (!(!(decide ((chosenL s keepAd) = (chosenL s keepAd))))) then (.int .i64 (chosenE s)) else undef)
              refine gather_nil ?_
              refine opg_f1 rfl rfl (fun hg238 => ?_) (fun h => by rw [h, cond_false])
              obtain rfl : v234 = .int .i64 (chosenE s) := by rw [hv235, hg238, cond_true]
              obtain rfl : v236 = .int .i64 (chosenE s) := by rw [hv237, hg238, cond_true]
              exact op_neq rfl rfl rfl ⟨told rfl rfl (by rw [hg238, cond_true]), (Below.refl _ _)⟩
            · intro W224 hW225
              rintro _ rfl
              intro v239 (hv240 : v239 = bif (!(!(decide ((chosenL s keepAd) = (chosenL s keepAd))))) then (.bool (!decide (chosenE s = chosenE s))) else undef)
              refine gather_nil ?_
              refine opg_none rfl ?_
              exact op_or rfl rfl rfl (fun h => by rw [hv240, (not_i h), cond_true]) rfl ⟨told rfl rfl rfl, (Below.refl _ _)⟩
            intro W241 hW242
            rintro _ rfl
            refine gather_nil ?_
            refine (then_norm ?_)
            refine wc_cond (b := (!(decide ((chosenL s keepAd) = (chosenL s keepAd)))) || (!decide (chosenE s = chosenE s))) rfl (fun hc243 => ?_) (fun hc243 => ?_)
            · exfalso
              simp at hc243
            · refine wc_skip ?_
              refine (then_norm ?_)
              refine wc_seq ?_
              refine wc_region ?_
              refine wl_op rfl (op_move rfl rfl ?_)
              have hB244 : Below w.heap.size w W241 := (below_step (below_step hB217 hE223) hW242)
              refine wl_op rfl (op_call ent36 rfl (Calls_spec (hs.ext (flat_lifts _) hB244) (by omega)) rfl ?_)
              rintro _ W249 ⟨A1245, n1246, c1247, rfl, hp248, hE250⟩
              refine wl_op rfl (op_move rfl rfl ?_)
              refine wl_op rfl (op_extract (v := .slice A1245 n1246 c1247) rfl rfl rfl ?_)
              refine wl_op rfl (op_extract (v := .int .i64 (chosenE s)) rfl rfl rfl ?_)
              refine wl_op rfl (op_assign rfl rfl ?_)
              refine wl_op rfl (op_assign rfl rfl ?_)
              refine (wl_done (then_norm ?_))
              refine WC.sub [(0, .slice A n c), (6, .bool false), (7, .slice A1245 n1246 c1247), (8, .int .i64 (chosenE s)), (9, .slice A1218 n1219 c1220), (10, .int .i64 (chosenE s))] ⟨rfl, rfl, rfl, rfl, rfl, rfl, trivial⟩ ?_
              refine wc_seq ?_
              refine wc_seq ?_
              refine wc_region ?_
              refine wl_op rfl (op_move rfl rfl ?_)
              have hB251 : Below w.heap.size w W249 := (below_step hB244 hE250)
              refine wl_op rfl (op_call ent37 rfl (rCalls_spec (hs.ext (flat_lifts _) hB251) (by omega)) rfl ?_)
              rintro _ W256 ⟨A1252, n1253, c1254, rfl, hp255, hE257⟩
              refine wl_op rfl (op_move rfl rfl ?_)
              refine wl_op rfl (op_extract (v := .slice A1252 n1253 c1254) rfl rfl rfl ?_)
              refine wl_op rfl (op_extract (v := .int .i64 (chosenE s)) rfl rfl rfl ?_)
              refine wl_op rfl (op_assign rfl rfl ?_)
              refine wl_op rfl (op_assign rfl rfl ?_)
              refine (wl_done (then_norm ?_))
              refine wc_seq ?_
              refine wc_text [(0, .slice A n c), (6, .bool false), (7, .slice A1245 n1246 c1247), (8, .int .i64 (chosenE s)), (9, .slice A1252 n1253 c1254), (10, .int .i64 (chosenE s))] ⟨rfl, rfl, rfl, rfl, rfl, rfl, trivial⟩ [fun v _ => v = .slice A1245 n1246 c1247, fun v _ => v = .slice A1252 n1253 c1254, fun v _ => v = .bool (decide ((chosenL s keepCalls) = (chosenL s keepCalls))), fun v _ => v = .bool (!(decide ((chosenL s keepCalls) = (chosenL s keepCalls)))), fun v _ => v = .bool (!(decide ((chosenL s keepCalls) = (chosenL s keepCalls)))), fun v _ => v = (bif (!(!(decide ((chosenL s keepCalls) = (chosenL s keepCalls))))) then (.int .i64 (chosenE s)) else undef), fun v _ => v = (bif (!(!(decide ((chosenL s keepCalls) = (chosenL s keepCalls))))) then (.int .i64 (chosenE s)) else undef), fun v _ => v = (bif (!(!(decide ((chosenL s keepCalls) = (chosenL s keepCalls))))) then (.bool (!decide (chosenE s = chosenE s))) else undef), fun v _ => v = .bool ((!(decide ((chosenL s keepCalls) = (chosenL s keepCalls)))) || (!decide (chosenE s = chosenE s)))] [[], [], [0, 1], [2], [3], [4], [4], [4, 5, 6], [4, 7]] [8] rfl rfl rfl ⟨fun _ _ _ _ h => h, fun _ _ _ _ h => h, fun _ _ _ _ h => h, fun _ _ _ _ h => h, fun _ _ _ _ h => h, fun _ _ _ _ h => h, fun _ _ _ _ h => h, fun _ _ _ _ h => h, fun _ _ _ _ h => h, trivial⟩ ⟨?_, ?_, ?_, ?_, ?_, ?_, ?_, ?_, ?_, trivial⟩ ?_
              · intro W258 hW259
                refine gather_nil ?_
                refine opg_none rfl ?_
                exact op_move rfl rfl ⟨told rfl rfl rfl, (Below.refl _ _)⟩
              · intro W258 hW259
                refine gather_nil ?_
                refine opg_none rfl ?_
                exact op_move rfl rfl ⟨told rfl rfl rfl, (Below.refl _ _)⟩
              · intro W258 hW259
                rintro _ rfl
                rintro _ rfl
                refine gather_nil ?_
                refine opg_none rfl ?_
                have hB262 : Below W249.heap.size W249 W258 := (below_step (below_step (Below.refl _ _) hE257) hW259)
                have hB263 : Below W256.heap.size W256 W258 := (below_step (Below.refl _ _) hW259)
                refine op_call ent12 rfl (same_spec (hp248.ext (flat_lifts _) hB262) (hp255.ext (flat_lifts _) hB263)) rfl ?_
                rintro _ W264 ⟨rfl, hE265⟩
                exact ⟨told rfl rfl rfl, hE265⟩
              · intro W258 hW259
                rintro _ rfl
                refine gather_nil ?_
                refine opg_none rfl ?_
                exact op_not rfl rfl ⟨told rfl rfl rfl, (Below.refl _ _)⟩
              · intro W258 hW259
                rintro _ rfl
                refine gather_nil ?_
                refine opg_none rfl ?_
                exact op_move rfl rfl ⟨told rfl rfl rfl, (Below.refl _ _)⟩
              · intro W258 hW259
                rintro _ rfl
                refine gather_nil ?_
                refine opg_f1 rfl rfl (fun hg266 => ?_) (fun h => by rw [h, cond_false])
                exact op_move rfl rfl ⟨told rfl rfl (by rw [hg266, cond_true]), (Below.refl _ _)⟩
              · intro W258 hW259
                rintro _ rfl
                refine gather_nil ?_
                refine opg_f1 rfl rfl (fun hg267 => ?_) (fun h => by rw [h, cond_false])
                exact op_move rfl rfl ⟨told rfl rfl (by rw [hg267, cond_true]), (Below.refl _ _)⟩
              · intro W258 hW259
                rintro _ rfl
                intro v268 (hv269 : v268 = bif (!(!(decide ((chosenL s keepCalls) = (chosenL s keepCalls))))) then (.int .i64 (chosenE s)) else undef)
                intro v270 (hv271 : v270 = bif (!(!(decide ((chosenL s keepCalls) = (chosenL s keepCalls))))) then (.int .i64 (chosenE s)) else undef)
                refine gather_nil ?_
                refine opg_f1 rfl rfl (fun hg272 => ?_) (fun h => by rw [h, cond_false])
                obtain rfl : v268 = .int .i64 (chosenE s) := by rw [hv269, hg272, cond_true]
                obtain rfl : v270 = .int .i64 (chosenE s) := by rw [hv271, hg272, cond_true]
                exact op_neq rfl rfl rfl ⟨told rfl rfl (by rw [hg272, cond_true]), (Below.refl _ _)⟩
              · intro W258 hW259
                rintro _ rfl
                intro v273 (hv274 : v273 = bif (!(!(decide ((chosenL s keepCalls) = (chosenL s keepCalls))))) then (.bool (!decide (chosenE s = chosenE s))) else undef)
                refine gather_nil ?_
                refine opg_none rfl ?_
                exact op_or rfl rfl rfl (fun h => by rw [hv274, (not_i h), cond_true]) rfl ⟨told rfl rfl rfl, (Below.refl _ _)⟩
              intro W275 hW276
              rintro _ rfl
              refine gather_nil ?_
              refine (then_norm ?_)
              refine wc_cond (b := (!(decide ((chosenL s keepCalls) = (chosenL s keepCalls)))) || (!decide (chosenE s = chosenE s))) rfl (fun hc277 => ?_) (fun hc277 => ?_)
              · exfalso
                simp at hc277
              · refine wc_skip ?_
                refine (then_norm ?_)
                refine wc_seq ?_
                refine wc_region ?_
                refine wl_op rfl (op_move rfl rfl ?_)
                have hB278 : Below w.heap.size w W275 := (below_step (below_step hB251 hE257) hW276)
                refine wl_op rfl (op_call ent21 rfl (Plain_spec (hs.ext (flat_lifts _) hB278) (by omega)) rfl ?_)
                rintro _ W283 ⟨A1279, n1280, c1281, rfl, hp282, hE284⟩
                refine wl_op rfl (op_move rfl rfl ?_)
                refine wl_op rfl (op_extract (v := .slice A1279 n1280 c1281) rfl rfl rfl ?_)
                refine wl_op rfl (op_extract (v := .int .i64 (chosenE s)) rfl rfl rfl ?_)
                refine wl_op rfl (op_assign rfl rfl ?_)
                refine wl_op rfl (op_assign rfl rfl ?_)
                refine (wl_done (then_norm ?_))
                refine WC.sub [(0, .slice A n c), (6, .bool false), (7, .slice A1279 n1280 c1281), (8, .int .i64 (chosenE s)), (9, .slice A1252 n1253 c1254), (10, .int .i64 (chosenE s))] ⟨rfl, rfl, rfl, rfl, rfl, rfl, trivial⟩ ?_
                refine wc_seq ?_
                refine wc_seq ?_
                refine wc_region ?_
                refine wl_op rfl (op_move rfl rfl ?_)
                have hB285 : Below w.heap.size w W283 := (below_step hB278 hE284)
                refine wl_op rfl (op_call ent38 rfl (rPlain_spec (hs.ext (flat_lifts _) hB285) (by omega)) rfl ?_)
                rintro _ W290 ⟨A1286, n1287, c1288, rfl, hp289, hE291⟩
                refine wl_op rfl (op_move rfl rfl ?_)
                refine wl_op rfl (op_extract (v := .slice A1286 n1287 c1288) rfl rfl rfl ?_)
                refine wl_op rfl (op_extract (v := .int .i64 (chosenE s)) rfl rfl rfl ?_)
                refine wl_op rfl (op_assign rfl rfl ?_)
                refine wl_op rfl (op_assign rfl rfl ?_)
                refine (wl_done (then_norm ?_))
                refine wc_seq ?_
                refine wc_text [(0, .slice A n c), (6, .bool false), (7, .slice A1279 n1280 c1281), (8, .int .i64 (chosenE s)), (9, .slice A1286 n1287 c1288), (10, .int .i64 (chosenE s))] ⟨rfl, rfl, rfl, rfl, rfl, rfl, trivial⟩ [fun v _ => v = .slice A1279 n1280 c1281, fun v _ => v = .slice A1286 n1287 c1288, fun v _ => v = .bool (decide ((chosenL s keepPlain) = (chosenL s keepPlain))), fun v _ => v = .bool (!(decide ((chosenL s keepPlain) = (chosenL s keepPlain)))), fun v _ => v = .bool (!(decide ((chosenL s keepPlain) = (chosenL s keepPlain)))), fun v _ => v = (bif (!(!(decide ((chosenL s keepPlain) = (chosenL s keepPlain))))) then (.int .i64 (chosenE s)) else undef), fun v _ => v = (bif (!(!(decide ((chosenL s keepPlain) = (chosenL s keepPlain))))) then (.int .i64 (chosenE s)) else undef), fun v _ => v = (bif (!(!(decide ((chosenL s keepPlain) = (chosenL s keepPlain))))) then (.bool (!decide (chosenE s = chosenE s))) else undef), fun v _ => v = .bool ((!(decide ((chosenL s keepPlain) = (chosenL s keepPlain)))) || (!decide (chosenE s = chosenE s)))] [[], [], [0, 1], [2], [3], [4], [4], [4, 5, 6], [4, 7]] [8] rfl rfl rfl ⟨fun _ _ _ _ h => h, fun _ _ _ _ h => h, fun _ _ _ _ h => h, fun _ _ _ _ h => h, fun _ _ _ _ h => h, fun _ _ _ _ h => h, fun _ _ _ _ h => h, fun _ _ _ _ h => h, fun _ _ _ _ h => h, trivial⟩ ⟨?_, ?_, ?_, ?_, ?_, ?_, ?_, ?_, ?_, trivial⟩ ?_
                · intro W292 hW293
                  refine gather_nil ?_
                  refine opg_none rfl ?_
                  exact op_move rfl rfl ⟨told rfl rfl rfl, (Below.refl _ _)⟩
                · intro W292 hW293
                  refine gather_nil ?_
                  refine opg_none rfl ?_
                  exact op_move rfl rfl ⟨told rfl rfl rfl, (Below.refl _ _)⟩
                · intro W292 hW293
                  rintro _ rfl
                  rintro _ rfl
                  refine gather_nil ?_
                  refine opg_none rfl ?_
                  have hB296 : Below W283.heap.size W283 W292 := (below_step (below_step (Below.refl _ _) hE291) hW293)
                  have hB297 : Below W290.heap.size W290 W292 := (below_step (Below.refl _ _) hW293)
                  refine op_call ent12 rfl (same_spec (hp282.ext (flat_lifts _) hB296) (hp289.ext (flat_lifts _) hB297)) rfl ?_
                  rintro _ W298 ⟨rfl, hE299⟩
                  exact ⟨told rfl rfl rfl, hE299⟩
                · intro W292 hW293
                  rintro _ rfl
                  refine gather_nil ?_
                  refine opg_none rfl ?_
                  exact op_not rfl rfl ⟨told rfl rfl rfl, (Below.refl _ _)⟩
                · intro W292 hW293
                  rintro _ rfl
                  refine gather_nil ?_
                  refine opg_none rfl ?_
                  exact op_move rfl rfl ⟨told rfl rfl rfl, (Below.refl _ _)⟩
                · intro W292 hW293
                  rintro _ rfl
                  refine gather_nil ?_
                  refine opg_f1 rfl rfl (fun hg300 => ?_) (fun h => by rw [h, cond_false])
                  exact op_move rfl rfl ⟨told rfl rfl (by rw [hg300, cond_true]), (Below.refl _ _)⟩
                · intro W292 hW293
                  rintro _ rfl
                  refine gather_nil ?_
                  refine opg_f1 rfl rfl (fun hg301 => ?_) (fun h => by rw [h, cond_false])
                  exact op_move rfl rfl ⟨told rfl rfl (by rw [hg301, cond_true]), (Below.refl _ _)⟩
                · intro W292 hW293
                  rintro _ rfl
                  intro v302 (hv303 : v302 = bif (!(!(decide ((chosenL s keepPlain) = (chosenL s keepPlain))))) then (.int .i64 (chosenE s)) else undef)
                  intro v304 (hv305 : v304 = bif (!(!(decide ((chosenL s keepPlain) = (chosenL s keepPlain))))) then (.int .i64 (chosenE s)) else undef)
                  refine gather_nil ?_
                  refine opg_f1 rfl rfl (fun hg306 => ?_) (fun h => by rw [h, cond_false])
                  obtain rfl : v302 = .int .i64 (chosenE s) := by rw [hv303, hg306, cond_true]
                  obtain rfl : v304 = .int .i64 (chosenE s) := by rw [hv305, hg306, cond_true]
                  exact op_neq rfl rfl rfl ⟨told rfl rfl (by rw [hg306, cond_true]), (Below.refl _ _)⟩
                · intro W292 hW293
                  rintro _ rfl
                  intro v307 (hv308 : v307 = bif (!(!(decide ((chosenL s keepPlain) = (chosenL s keepPlain))))) then (.bool (!decide (chosenE s = chosenE s))) else undef)
                  refine gather_nil ?_
                  refine opg_none rfl ?_
                  exact op_or rfl rfl rfl (fun h => by rw [hv308, (not_i h), cond_true]) rfl ⟨told rfl rfl rfl, (Below.refl _ _)⟩
                intro W309 hW310
                rintro _ rfl
                refine gather_nil ?_
                refine (then_norm ?_)
                refine wc_cond (b := (!(decide ((chosenL s keepPlain) = (chosenL s keepPlain)))) || (!decide (chosenE s = chosenE s))) rfl (fun hc311 => ?_) (fun hc311 => ?_)
                · exfalso
                  simp at hc311
                · refine wc_skip ?_
                  refine (then_norm ?_)
                  refine wc_seq ?_
                  refine wc_seq ?_
                  refine wc_region ?_
                  refine wl_op rfl (op_move rfl rfl ?_)
                  refine wl_op rfl (op_eql rfl rfl rfl ?_)
                  refine (wl_done (then_norm ?_))
                  refine wc_cond (b := decide (chosenE s = 0)) rfl (fun hc312 => ?_) (fun hc312 => ?_)
                  · have hc312r := hc312
                    have hc312 := of_decide_eq_true hc312
                    have hvs : validSet s = true := chosenE_0.1 hc312
                    refine wc_seq ?_
                    refine wc_region ?_
                    refine wl_op rfl (op_assign rfl rfl ?_)
                    refine (wl_done (then_norm ?_))
                    refine WC.sub [(0, .slice A n c), (6, .bool false), (7, .slice A1279 n1280 c1281), (15, .int .i64 1)] ⟨rfl, rfl, rfl, rfl, trivial⟩ ?_
                    refine wc_block ?_
                    refine wc_loop (σ := Int × World) (fun st_ => [(0, .slice A n c), (6, .bool false), (7, .slice A1279 n1280 c1281), (15, .int .i64 st_.1)]) (fun st_ => st_.2) (fun st_ => (1 ≤ st_.1 ∧ st_.1 ≤ 14) ∧ (Below W309.heap.size W309 st_.2)) (fun st_ => (14 - st_.1).toNat) (1, W309) ⟨(by first | omega | (dsimp only; omega)), (Below.refl _ _)⟩ ⟨rfl, rfl, rfl, rfl, trivial⟩ rfl ?_
                    rintro ⟨k, W313⟩ ⟨hk, hE314⟩
                    dsimp only at hk hE314
                    refine wc_at [(0, .slice A n c), (6, .bool false), (7, .slice A1279 n1280 c1281), (15, .int .i64 k)] W313 ⟨rfl, rfl, rfl, rfl, trivial⟩ rfl ?_
                    refine wc_seq ?_
                    refine wc_seq ?_
                    refine wc_region ?_
                    refine wl_op rfl (op_move rfl rfl ?_)
                    refine wl_op rfl (op_leq rfl rfl rfl ?_)
                    refine (wl_done (then_norm ?_))
                    refine wc_cond (b := decide (k ≤ 13)) rfl (fun hc315 => ?_) (fun hc315 => ?_)
                    · have hc315r := hc315
                      have hc315 := of_decide_eq_true hc315
                      refine wc_skip ?_
                      refine (then_norm ?_)
                      refine wc_seq ?_
                      refine wc_block ?_
                      refine wc_seq ?_
                      refine wc_region ?_
                      refine wl_op rfl (op_move rfl rfl ?_)
                      refine wl_op rfl (op_move rfl rfl ?_)
                      have hB316 : Below w.heap.size w W313 := (below_step (below_step (below_step hB285 hE291) hW310) hE314)
                      refine wl_op rfl (op_call ent13 rfl (Get_spec (hs.ext (flat_lifts _) hB316)) rfl ?_)
                      rintro _ W317 ⟨rfl, hE318⟩
                      refine wl_op rfl (op_move rfl rfl ?_)
                      refine wl_op rfl (op_extract (v := .int .i64 (getV s k)) rfl rfl rfl ?_)
                      refine wl_op rfl (op_extract (v := .int .i64 (getE s k)) rfl rfl rfl ?_)
                      refine wl_op rfl (op_assign rfl rfl ?_)
                      refine wl_op rfl (op_assign rfl rfl ?_)
                      refine (wl_done (then_norm ?_))
                      refine wc_seq ?_
                      refine wc_region ?_
                      refine wl_op rfl (op_move rfl rfl ?_)
                      refine wl_op rfl (op_move rfl rfl ?_)
                      have hB319 : Below W283.heap.size W283 W317 := (below_step (below_step (below_step (below_step (Below.refl _ _) hE291) hW310) hE314) hE318)
                      refine wl_op rfl (op_call ent13 rfl (Get_spec (hp282.ext (flat_lifts _) hB319)) rfl ?_)
                      rintro _ W320 ⟨rfl, hE321⟩
                      refine wl_op rfl (op_move rfl rfl ?_)
                      refine wl_op rfl (op_extract (v := .int .i64 (getV (chosenL s keepPlain) k)) rfl rfl rfl ?_)
                      refine wl_op rfl (op_extract (v := .int .i64 (getE (chosenL s keepPlain) k)) rfl rfl rfl ?_)
                      refine wl_op rfl (op_assign rfl rfl ?_)
                      refine wl_op rfl (op_assign rfl rfl ?_)
                      refine (wl_done (then_norm ?_))
                      refine wc_seq ?_
                      refine wc_text [(0, .slice A n c), (6, .bool false), (7, .slice A1279 n1280 c1281), (15, .int .i64 k), (199, .int .i64 k), (200, .bool (decide (k ≤ 13))), (204, .slice A n c), (205, .int .i64 k), (206, .tuple #[.int .i64 (getV s k), .int .i64 (getE s k)]), (203, .tuple #[.int .i64 (getV s k), .int .i64 (getE s k)]), (207, .int .i64 (getV s k)), (208, .int .i64 (getE s k)), (16, .int .i64 (getV s k)), (210, .slice A1279 n1280 c1281), (211, .int .i64 k), (212, .tuple #[.int .i64 (getV (chosenL s keepPlain) k), .int .i64 (getE (chosenL s keepPlain) k)]), (209, .tuple #[.int .i64 (getV (chosenL s keepPlain) k), .int .i64 (getE (chosenL s keepPlain) k)]), (213, .int .i64 (getV (chosenL s keepPlain) k)), (214, .int .i64 (getE (chosenL s keepPlain) k)), (18, .int .i64 (getV (chosenL s keepPlain) k)), (19, .int .i64 (getE (chosenL s keepPlain) k))] ⟨rfl, rfl, rfl, rfl, rfl, rfl, rfl, rfl, rfl, rfl, rfl, rfl, rfl, rfl, rfl, rfl, rfl, rfl, rfl, rfl, rfl, trivial⟩ [fun v _ => v = .int .i64 (getE (chosenL s keepPlain) k), fun v _ => v = .bool (!decide (getE (chosenL s keepPlain) k = 0)), fun v _ => v = .bool (!decide (getE (chosenL s keepPlain) k = 0)), fun v _ => v = (bif (!(!decide (getE (chosenL s keepPlain) k = 0))) then (.int .i64 (getV s k)) else undef), fun v _ => v = (bif (!(!decide (getE (chosenL s keepPlain) k = 0))) then (.int .i64 (getV (chosenL s keepPlain) k)) else undef), fun v _ => v = (bif (!(!decide (getE (chosenL s keepPlain) k = 0))) then (.bool (!decide (getV s k = getV (chosenL s keepPlain) k))) else undef), fun v _ => v = .bool ((!decide (getE (chosenL s keepPlain) k = 0)) || (!decide (getV s k = getV (chosenL s keepPlain) k)))] [[], [0], [1], [2], [2], [2, 3, 4], [2, 5]] [0, 1, 2, 6] rfl rfl rfl ⟨fun _ _ _ _ h => h, fun _ _ _ _ h => h, fun _ _ _ _ h => h, fun _ _ _ _ h => h, fun _ _ _ _ h => h, fun _ _ _ _ h => h, fun _ _ _ _ h => h, trivial⟩ ⟨?_, ?_, ?_, ?_, ?_, ?_, ?_, trivial⟩ ?_
                      · intro W322 hW323
                        refine gather_nil ?_
                        refine opg_none rfl ?_
                        exact op_move rfl rfl ⟨told rfl rfl rfl, (Below.refl _ _)⟩
                      · intro W322 hW323
                        rintro _ rfl
                        refine gather_nil ?_
                        refine opg_none rfl ?_
                        exact op_neq rfl rfl rfl ⟨told rfl rfl rfl, (Below.refl _ _)⟩
                      · intro W322 hW323
                        rintro _ rfl
                        refine gather_nil ?_
                        refine opg_none rfl ?_
                        exact op_move rfl rfl ⟨told rfl rfl rfl, (Below.refl _ _)⟩
                      · intro W322 hW323
                        rintro _ rfl
                        refine gather_nil ?_
                        refine opg_f1 rfl rfl (fun hg324 => ?_) (fun h => by rw [h, cond_false])
                        exact op_move rfl rfl ⟨told rfl rfl (by rw [hg324, cond_true]), (Below.refl _ _)⟩
                      · intro W322 hW323
                        rintro _ rfl
                        refine gather_nil ?_
                        refine opg_f1 rfl rfl (fun hg325 => ?_) (fun h => by rw [h, cond_false])
                        exact op_move rfl rfl ⟨told rfl rfl (by rw [hg325, cond_true]), (Below.refl _ _)⟩
                      · intro W322 hW323
                        rintro _ rfl
                        intro v326 (hv327 : v326 = bif (!(!decide (getE (chosenL s keepPlain) k = 0))) then (.int .i64 (getV s k)) else undef)
                        intro v328 (hv329 : v328 = bif (!(!decide (getE (chosenL s keepPlain) k = 0))) then (.int .i64 (getV (chosenL s keepPlain) k)) else undef)
                        refine gather_nil ?_
                        refine opg_f1 rfl rfl (fun hg330 => ?_) (fun h => by rw [h, cond_false])
                        obtain rfl : v326 = .int .i64 (getV s k) := by rw [hv327, hg330, cond_true]
                        obtain rfl : v328 = .int .i64 (getV (chosenL s keepPlain) k) := by rw [hv329, hg330, cond_true]
                        exact op_neq rfl rfl rfl ⟨told rfl rfl (by rw [hg330, cond_true]), (Below.refl _ _)⟩
                      · intro W322 hW323
                        rintro _ rfl
                        intro v331 (hv332 : v331 = bif (!(!decide (getE (chosenL s keepPlain) k = 0))) then (.bool (!decide (getV s k = getV (chosenL s keepPlain) k))) else undef)
                        refine gather_nil ?_
                        refine opg_none rfl ?_
                        exact op_or rfl rfl rfl (fun h => by rw [hv332, (not_i h), cond_true]) rfl ⟨told rfl rfl rfl, (Below.refl _ _)⟩
                      intro W333 hW334
                      rintro _ rfl
                      rintro _ rfl
                      rintro _ rfl
                      rintro _ rfl
                      refine gather_nil ?_
                      refine (then_norm ?_)
                      refine wc_cond (b := (!decide (getE (chosenL s keepPlain) k = 0)) || (!decide (getV s k = getV (chosenL s keepPlain) k))) rfl (fun hc335 => ?_) (fun hc335 => ?_)
                      · exfalso
                        rw [(plain_get hvs hk.1 (by omega)).1, (plain_get hvs hk.1 (by omega)).2] at hc335
                        simp at hc335
                      · refine wc_skip ?_
                        refine (block_norm (then_norm ?_))
                        refine wc_region ?_
                        refine wl_op rfl (op_move rfl rfl ?_)
                        refine wl_op rfl (op_add (r := k + 1) rfl rfl (by omega) (by omega) rfl ?_)
                        refine wl_op rfl (op_assign rfl rfl ?_)
                        refine (wl_done (then_norm ?_))
                        have hB336 : Below W309.heap.size W309 W333 := (below_step (below_step (below_step (below_step (Below.refl _ _) hE314) hE318) hE321) hW334)
                        refine ⟨((k + 1), W333), ⟨(by first | omega | (dsimp only; omega)), hB336⟩, ?_, ⟨rfl, rfl, rfl, rfl, trivial⟩, rfl⟩
                        · dsimp only; omega
                    · have hc315r := hc315
                      have hc315 := of_decide_eq_false hc315
                      refine wc_exit ?_
                      refine (then_exit (then_exit (block_here (then_norm ?_))))
                      refine wc_seq ?_
                      refine wc_region ?_
                      refine wl_op rfl (op_call ent7 rfl (awake_spec) rfl ?_)
                      rintro _ W337 ⟨rfl, hE338⟩
                      refine wl_op rfl (op_assign rfl rfl ?_)
                      refine (wl_done (then_norm ?_))
                      refine WC.sub [(6, .bool true)] ⟨rfl, trivial⟩ ?_
                      refine wc_ret ?_
                      have hB339 : Below w.heap.size w W337 := (below_step (below_step (below_step (below_step hB285 hE291) hW310) hE314) hE338)
                      refine ⟨[_], ⟨rfl, trivial⟩, ⟨?_, hB339⟩⟩
                      exact rfl
                  · have hc312r := hc312
                    have hc312 := of_decide_eq_false hc312
                    refine wc_skip ?_
                    refine (then_norm ?_)
                    refine WC.sub [(6, .bool false)] ⟨rfl, trivial⟩ ?_
                    refine wc_seq ?_
                    refine wc_region ?_
                    refine wl_op rfl (op_call ent7 rfl (awake_spec) rfl ?_)
                    rintro _ W340 ⟨rfl, hE341⟩
                    refine wl_op rfl (op_assign rfl rfl ?_)
                    refine (wl_done (then_norm ?_))
                    refine wc_ret ?_
                    have hB342 : Below w.heap.size w W340 := (below_step (below_step (below_step hB285 hE291) hW310) hE341)
                    refine ⟨[_], ⟨rfl, trivial⟩, ⟨?_, hB342⟩⟩
                    exact rfl

end Go.Eng
