/- Lemmas for a law of the seat: what functions of the program do, each stated as a contract of its own (module S18a). -/
import Derived.Test.YtbjafckcpkhoaaaEngE
import Derived.Test.YtbjafckcpkhoaaaPolSpec
import Derived.Test.YtbjafckcpkhoaaaChecked
set_option linter.unusedVariables false
set_option maxRecDepth 100000
namespace Go.Eng
open Go.RowKit Go.Shelf Go.Proofs Pol

theorem zero80 : Zero Try.prog 80 (.agg #[.string ByteArray.empty, .slice none 0 0, .int .i64 0, .string ByteArray.empty, .slice none 0 0, .int .i64 0, .string ByteArray.empty, .slice none 0 0, .int .i64 0, .string ByteArray.empty, .slice none 0 0, .int .i64 0, .string ByteArray.empty, .slice none 0 0, .int .i64 0, .string ByteArray.empty, .slice none 0 0, .int .i64 0, .string ByteArray.empty, .slice none 0 0, .int .i64 0, .string ByteArray.empty, .slice none 0 0, .int .i64 0, .string ByteArray.empty, .slice none 0 0, .int .i64 0, .string ByteArray.empty, .slice none 0 0, .int .i64 0, .string ByteArray.empty, .slice none 0 0, .int .i64 0, .string ByteArray.empty, .slice none 0 0, .int .i64 0, .string ByteArray.empty, .slice none 0 0, .int .i64 0]) := fun w => by kernel_rfl
theorem sz80 : Sz Try.prog 80 39 := fun w => by kernel_rfl
theorem agg80 : AggT Try.prog 80 true := fun w => by kernel_rfl
theorem ent65 : Enters Try.prog 65 := enters_of Try.func65 (by kernel_rfl) rfl
theorem und77 : Und Try.prog 77 (.slice 9) := by unfold Und; kernel_rfl
theorem fa46_0 : FieldAt Try.prog 46 0 0 := fun b o w => by kernel_rfl
theorem agg3 : AggT Try.prog 3 false := fun w => by kernel_rfl
theorem ent52 : Enters Try.prog 52 := enters_of Try.func52 (by kernel_rfl) rfl
theorem fa46_1 : FieldAt Try.prog 46 1 1 := fun b o w => by kernel_rfl
theorem mixed : Try.prog.follows .mixedOrders = true := by kernel_rfl
theorem ent59 : Enters Try.prog 59 := enters_of Try.func59 (by kernel_rfl) rfl
theorem und22 : Und Try.prog 22 (.slice 46) := by unfold Und; kernel_rfl
theorem sz46 : Sz Try.prog 46 2 := fun w => by kernel_rfl
theorem agg46 : AggT Try.prog 46 true := fun w => by kernel_rfl
theorem zero46 : Zero Try.prog 46 (.agg #[.int .i64 0, .int .i64 0]) := fun w => by kernel_rfl
theorem ent25 : Enters Try.prog 25 := enters_of Try.func25 (by kernel_rfl) rfl

theorem is_spec {w : World} {k : Int} : Ret Try.prog 52 #[.int .i64 k] w (fun v w' => v = .bool (isB k) ∧ Below w.heap.size w w') := by
  refine ret_of (args := [.int .i64 k]) Try.func52 rfl Try.ntmps52 rfl (rs := [.tmp 2]) rfl ?_
  refine wc_seq ?_
  refine wc_region ?_
  refine wl_op rfl (op_assign rfl rfl ?_)
  refine (wl_done (then_norm ?_))
  refine wc_seq ?_
  refine wc_text [(0, .int .i64 k)] ⟨rfl, trivial⟩ [fun v _ => v = .int .i64 k, fun v _ => v = .bool (decide (1 ≤ k)), fun v _ => v = .bool (decide (1 ≤ k)), fun v _ => v = (bif (decide (1 ≤ k)) then (.int .i64 k) else undef), fun v _ => v = (bif (decide (1 ≤ k)) then (.bool (decide (k ≤ 13))) else undef), fun v _ => v = .bool ((decide (1 ≤ k)) && (decide (k ≤ 13))), fun v _ => v = .bool ((decide (1 ≤ k)) && (decide (k ≤ 13)))] [[], [0], [1], [2], [2, 3], [2, 4], [5]] [6] rfl rfl rfl ⟨fun _ _ _ _ h => h, fun _ _ _ _ h => h, fun _ _ _ _ h => h, fun _ _ _ _ h => h, fun _ _ _ _ h => h, fun _ _ _ _ h => h, fun _ _ _ _ h => h, trivial⟩ ⟨?_, ?_, ?_, ?_, ?_, ?_, ?_, trivial⟩ ?_
  · intro W1 hW2
    refine gather_nil ?_
    refine opg_none rfl ?_
    exact op_move rfl rfl ⟨told rfl rfl rfl, (Below.refl _ _)⟩
  · intro W1 hW2
    rintro _ rfl
    refine gather_nil ?_
    refine opg_none rfl ?_
    exact op_geq rfl rfl rfl ⟨told rfl rfl rfl, (Below.refl _ _)⟩
  · intro W1 hW2
    rintro _ rfl
    refine gather_nil ?_
    refine opg_none rfl ?_
    exact op_move rfl rfl ⟨told rfl rfl rfl, (Below.refl _ _)⟩
  · intro W1 hW2
    rintro _ rfl
    refine gather_nil ?_
    refine opg_t1 rfl rfl (fun hg3 => ?_) (fun h => by rw [h, cond_false])
    exact op_move rfl rfl ⟨told rfl rfl (by rw [hg3, cond_true]), (Below.refl _ _)⟩
  · intro W1 hW2
    rintro _ rfl
    intro v4 (hv5 : v4 = bif (decide (1 ≤ k)) then (.int .i64 k) else undef)
    refine gather_nil ?_
    refine opg_t1 rfl rfl (fun hg6 => ?_) (fun h => by rw [h, cond_false])
    have hd7 := of_decide_eq_true hg6
    obtain rfl : v4 = .int .i64 k := by rw [hv5, hg6, cond_true]
    exact op_leq rfl rfl rfl ⟨told rfl rfl (by rw [hg6, cond_true]), (Below.refl _ _)⟩
  · intro W1 hW2
    rintro _ rfl
    intro v8 (hv9 : v8 = bif (decide (1 ≤ k)) then (.bool (decide (k ≤ 13))) else undef)
    refine gather_nil ?_
    refine opg_none rfl ?_
    exact op_and rfl rfl rfl (fun h => by rw [hv9, h, cond_true]) rfl ⟨told rfl rfl rfl, (Below.refl _ _)⟩
  · intro W1 hW2
    rintro _ rfl
    refine gather_nil ?_
    refine opg_none rfl ?_
    exact op_assign rfl rfl ⟨told rfl rfl rfl, (Below.refl _ _)⟩
  intro W10 hW11
  rintro _ rfl
  refine gather_nil ?_
  refine (then_norm ?_)
  refine wc_ret ?_
  have hB12 : Below w.heap.size w W10 := (below_step (Below.refl _ _) hW11)
  refine ⟨[_], ⟨rfl, trivial⟩, ⟨?_, hB12⟩⟩
  exact rfl

/-- what kinds() gives -/
def IsKinds (v : Value) : Prop := ∃ b1 b2 b3 b4 b5 b6 b7 b8 b9 b11 b13 : Nat, v = .agg #[.string (ByteArray.mk #[116, 104, 114, 101, 97, 100]), .slice (some ⟨b1, 0, none⟩) 2 2, .int .i64 2, .string (ByteArray.mk #[108, 105, 102, 101, 115, 112, 97, 110]), .slice (some ⟨b2, 0, none⟩) 2 2, .int .i64 2, .string (ByteArray.mk #[117, 110, 105, 113, 117, 101]), .slice (some ⟨b3, 0, none⟩) 2 2, .int .i64 2, .string (ByteArray.mk #[97, 115, 115, 105, 103, 110]), .slice (some ⟨b4, 0, none⟩) 2 2, .int .i64 2, .string (ByteArray.mk #[114, 101, 116, 97, 105, 110]), .slice (some ⟨b5, 0, none⟩) 2 2, .int .i64 2, .string (ByteArray.mk #[112, 114, 111, 99, 101, 115, 115]), .slice (some ⟨b6, 0, none⟩) 3 3, .int .i64 3, .string (ByteArray.mk #[97, 99, 116, 105, 118, 97, 116, 101]), .slice (some ⟨b7, 0, none⟩) 2 2, .int .i64 2, .string (ByteArray.mk #[114, 101, 98, 105, 110, 100]), .slice (some ⟨b8, 0, none⟩) 3 3, .int .i64 3, .string (ByteArray.mk #[99, 101, 114, 116, 97, 105, 110, 116, 121]), .slice (some ⟨b9, 0, none⟩) 4 4, .int .i64 4, .string (ByteArray.mk #[108, 105, 109, 105, 116]), .slice none 0 0, .int .i64 1000000, .string (ByteArray.mk #[114, 111, 117, 116, 101]), .slice (some ⟨b11, 0, none⟩) 3 3, .int .i64 3, .string (ByteArray.mk #[112, 114, 105, 111, 114, 105, 116, 121]), .slice none 0 0, .int .i64 100, .string (ByteArray.mk #[111, 114, 100, 101, 114]), .slice (some ⟨b13, 0, none⟩) 4 4, .int .i64 4]
def wordsN (k : Int) : Nat := if k = 6 then 3 else if k = 8 then 3 else if k = 9 then 4 else if k = 10 then 0 else if k = 11 then 3 else if k = 12 then 0 else if k = 13 then 4 else 2
/-- one of the kinds -/
def IsKind (k : Int) (v : Value) : Prop := ∃ (s : ByteArray) (A : Option Addr), v = .agg #[.string s, .slice A (wordsN k) (wordsN k), .int .i64 (mostI k)]


theorem kinds_spec {w : World} : Ret Try.prog 65 #[] w (fun v w' => IsKinds v ∧ Below w.heap.size w w') := by
  refine ret_of (args := []) Try.func65 rfl Try.ntmps65 rfl (rs := [.cell 0 80]) rfl ?_
  refine wc_seq ?_
  refine wc_region ?_
  refine wl_op rfl (op_alloc zero80 rfl ?_)
  intro W1 b2 hN3
  have hb4 : W1.heap[b2]? = some (.cells #[.string ByteArray.empty, .slice none 0 0, .int .i64 0, .string ByteArray.empty, .slice none 0 0, .int .i64 0, .string ByteArray.empty, .slice none 0 0, .int .i64 0, .string ByteArray.empty, .slice none 0 0, .int .i64 0, .string ByteArray.empty, .slice none 0 0, .int .i64 0, .string ByteArray.empty, .slice none 0 0, .int .i64 0, .string ByteArray.empty, .slice none 0 0, .int .i64 0, .string ByteArray.empty, .slice none 0 0, .int .i64 0, .string ByteArray.empty, .slice none 0 0, .int .i64 0, .string ByteArray.empty, .slice none 0 0, .int .i64 0, .string ByteArray.empty, .slice none 0 0, .int .i64 0, .string ByteArray.empty, .slice none 0 0, .int .i64 0, .string ByteArray.empty, .slice none 0 0, .int .i64 0] 80 (0, 0)) := hN3.blk
  refine (wl_done (then_norm ?_))
  refine wc_seq ?_
  refine wc_region ?_
  refine wl_op rfl (op_buildSlice (cs := #[.string (ByteArray.mk #[102, 114, 101, 101]), .string (ByteArray.mk #[115, 105, 110, 103, 108, 101])]) (e := 9) rfl (fun w => by kernel_rfl) rfl ?_)
  intro W5 b6 hN7
  have hb8 : W5.heap[b6]? = some (.cells #[.string (ByteArray.mk #[102, 114, 101, 101]), .string (ByteArray.mk #[115, 105, 110, 103, 108, 101])] 9 (0, 0)) := hN7.blk
  refine wl_op rfl (op_build (v := .agg #[.string (ByteArray.mk #[116, 104, 114, 101, 97, 100]), .slice (some ⟨b6, 0, none⟩) 2 2, .int .i64 2]) rfl (fun w => by kernel_rfl) rfl ?_)
  refine wl_op rfl (op_buildSlice (cs := #[.string (ByteArray.mk #[116, 114, 97, 110, 115, 105, 101, 110, 116]), .string (ByteArray.mk #[112, 101, 114, 115, 105, 115, 116, 101, 110, 116])]) (e := 9) rfl (fun w => by kernel_rfl) rfl ?_)
  intro W9 b10 hN11
  have hb12 : W9.heap[b10]? = some (.cells #[.string (ByteArray.mk #[116, 114, 97, 110, 115, 105, 101, 110, 116]), .string (ByteArray.mk #[112, 101, 114, 115, 105, 115, 116, 101, 110, 116])] 9 (0, 0)) := hN11.blk
  refine wl_op rfl (op_build (v := .agg #[.string (ByteArray.mk #[108, 105, 102, 101, 115, 112, 97, 110]), .slice (some ⟨b10, 0, none⟩) 2 2, .int .i64 2]) rfl (fun w => by kernel_rfl) rfl ?_)
  refine wl_op rfl (op_buildSlice (cs := #[.string (ByteArray.mk #[117, 110, 105, 113, 117, 101]), .string (ByteArray.mk #[109, 117, 108, 116, 105, 112, 108, 101])]) (e := 9) rfl (fun w => by kernel_rfl) rfl ?_)
  intro W13 b14 hN15
  have hb16 : W13.heap[b14]? = some (.cells #[.string (ByteArray.mk #[117, 110, 105, 113, 117, 101]), .string (ByteArray.mk #[109, 117, 108, 116, 105, 112, 108, 101])] 9 (0, 0)) := hN15.blk
  refine wl_op rfl (op_build (v := .agg #[.string (ByteArray.mk #[117, 110, 105, 113, 117, 101]), .slice (some ⟨b14, 0, none⟩) 2 2, .int .i64 2]) rfl (fun w => by kernel_rfl) rfl ?_)
  refine wl_op rfl (op_buildSlice (cs := #[.string (ByteArray.mk #[115, 121, 115, 116, 101, 109]), .string (ByteArray.mk #[117, 115, 101, 114])]) (e := 9) rfl (fun w => by kernel_rfl) rfl ?_)
  intro W17 b18 hN19
  have hb20 : W17.heap[b18]? = some (.cells #[.string (ByteArray.mk #[115, 121, 115, 116, 101, 109]), .string (ByteArray.mk #[117, 115, 101, 114])] 9 (0, 0)) := hN19.blk
  refine wl_op rfl (op_build (v := .agg #[.string (ByteArray.mk #[97, 115, 115, 105, 103, 110]), .slice (some ⟨b18, 0, none⟩) 2 2, .int .i64 2]) rfl (fun w => by kernel_rfl) rfl ?_)
  refine wl_op rfl (op_buildSlice (cs := #[.string (ByteArray.mk #[114, 101, 116, 97, 105, 110]), .string (ByteArray.mk #[102, 111, 114, 103, 101, 116])]) (e := 9) rfl (fun w => by kernel_rfl) rfl ?_)
  intro W21 b22 hN23
  have hb24 : W21.heap[b22]? = some (.cells #[.string (ByteArray.mk #[114, 101, 116, 97, 105, 110]), .string (ByteArray.mk #[102, 111, 114, 103, 101, 116])] 9 (0, 0)) := hN23.blk
  refine wl_op rfl (op_build (v := .agg #[.string (ByteArray.mk #[114, 101, 116, 97, 105, 110]), .slice (some ⟨b22, 0, none⟩) 2 2, .int .i64 2]) rfl (fun w => by kernel_rfl) rfl ?_)
  refine wl_op rfl (op_buildSlice (cs := #[.string (ByteArray.mk #[109, 97, 112]), .string (ByteArray.mk #[100, 101, 102, 97, 117, 108, 116]), .string (ByteArray.mk #[109, 97, 110, 97, 103, 101, 114])]) (e := 9) rfl (fun w => by kernel_rfl) rfl ?_)
  intro W25 b26 hN27
  have hb28 : W25.heap[b26]? = some (.cells #[.string (ByteArray.mk #[109, 97, 112]), .string (ByteArray.mk #[100, 101, 102, 97, 117, 108, 116]), .string (ByteArray.mk #[109, 97, 110, 97, 103, 101, 114])] 9 (0, 0)) := hN27.blk
  refine wl_op rfl (op_build (v := .agg #[.string (ByteArray.mk #[112, 114, 111, 99, 101, 115, 115]), .slice (some ⟨b26, 0, none⟩) 3 3, .int .i64 3]) rfl (fun w => by kernel_rfl) rfl ?_)
  refine wl_op rfl (op_buildSlice (cs := #[.string (ByteArray.mk #[101, 120, 112, 108, 105, 99, 105, 116]), .string (ByteArray.mk #[105, 109, 112, 108, 105, 99, 105, 116])]) (e := 9) rfl (fun w => by kernel_rfl) rfl ?_)
  intro W29 b30 hN31
  have hb32 : W29.heap[b30]? = some (.cells #[.string (ByteArray.mk #[101, 120, 112, 108, 105, 99, 105, 116]), .string (ByteArray.mk #[105, 109, 112, 108, 105, 99, 105, 116])] 9 (0, 0)) := hN31.blk
  refine wl_op rfl (op_build (v := .agg #[.string (ByteArray.mk #[97, 99, 116, 105, 118, 97, 116, 101]), .slice (some ⟨b30, 0, none⟩) 2 2, .int .i64 2]) rfl (fun w => by kernel_rfl) rfl ?_)
  refine wl_op rfl (op_buildSlice (cs := #[.string (ByteArray.mk #[116, 114, 97, 110, 115, 112, 97, 114, 101, 110, 116]), .string (ByteArray.mk #[107, 101, 101, 112]), .string (ByteArray.mk #[110, 101, 118, 101, 114])]) (e := 9) rfl (fun w => by kernel_rfl) rfl ?_)
  intro W33 b34 hN35
  have hb36 : W33.heap[b34]? = some (.cells #[.string (ByteArray.mk #[116, 114, 97, 110, 115, 112, 97, 114, 101, 110, 116]), .string (ByteArray.mk #[107, 101, 101, 112]), .string (ByteArray.mk #[110, 101, 118, 101, 114])] 9 (0, 0)) := hN35.blk
  refine wl_op rfl (op_build (v := .agg #[.string (ByteArray.mk #[114, 101, 98, 105, 110, 100]), .slice (some ⟨b34, 0, none⟩) 3 3, .int .i64 3]) rfl (fun w => by kernel_rfl) rfl ?_)
  refine wl_op rfl (op_buildSlice (cs := #[.string (ByteArray.mk #[115, 101, 110, 116]), .string (ByteArray.mk #[110, 111, 110, 101]), .string (ByteArray.mk #[115, 101, 114, 118, 101, 114]), .string (ByteArray.mk #[100, 111, 110, 101])]) (e := 9) rfl (fun w => by kernel_rfl) rfl ?_)
  intro W37 b38 hN39
  have hb40 : W37.heap[b38]? = some (.cells #[.string (ByteArray.mk #[115, 101, 110, 116]), .string (ByteArray.mk #[110, 111, 110, 101]), .string (ByteArray.mk #[115, 101, 114, 118, 101, 114]), .string (ByteArray.mk #[100, 111, 110, 101])] 9 (0, 0)) := hN39.blk
  refine wl_op rfl (op_build (v := .agg #[.string (ByteArray.mk #[99, 101, 114, 116, 97, 105, 110, 116, 121]), .slice (some ⟨b38, 0, none⟩) 4 4, .int .i64 4]) rfl (fun w => by kernel_rfl) rfl ?_)
  refine wl_op rfl (op_build (v := .agg #[.string (ByteArray.mk #[108, 105, 109, 105, 116]), .slice none 0 0, .int .i64 1000000]) rfl (fun w => by kernel_rfl) rfl ?_)
  refine wl_op rfl (op_buildSlice (cs := #[.string (ByteArray.mk #[100, 105, 114, 101, 99, 116]), .string (ByteArray.mk #[102, 111, 114, 119, 97, 114, 100]), .string (ByteArray.mk #[115, 116, 111, 114, 101])]) (e := 9) rfl (fun w => by kernel_rfl) rfl ?_)
  intro W41 b42 hN43
  have hb44 : W41.heap[b42]? = some (.cells #[.string (ByteArray.mk #[100, 105, 114, 101, 99, 116]), .string (ByteArray.mk #[102, 111, 114, 119, 97, 114, 100]), .string (ByteArray.mk #[115, 116, 111, 114, 101])] 9 (0, 0)) := hN43.blk
  refine wl_op rfl (op_build (v := .agg #[.string (ByteArray.mk #[114, 111, 117, 116, 101]), .slice (some ⟨b42, 0, none⟩) 3 3, .int .i64 3]) rfl (fun w => by kernel_rfl) rfl ?_)
  refine wl_op rfl (op_build (v := .agg #[.string (ByteArray.mk #[112, 114, 105, 111, 114, 105, 116, 121]), .slice none 0 0, .int .i64 100]) rfl (fun w => by kernel_rfl) rfl ?_)
  refine wl_op rfl (op_buildSlice (cs := #[.string (ByteArray.mk #[97, 110, 121]), .string (ByteArray.mk #[116, 105, 109, 101]), .string (ByteArray.mk #[112, 114, 105, 111, 114, 105, 116, 121]), .string (ByteArray.mk #[100, 101, 97, 100, 108, 105, 110, 101])]) (e := 9) rfl (fun w => by kernel_rfl) rfl ?_)
  intro W45 b46 hN47
  have hb48 : W45.heap[b46]? = some (.cells #[.string (ByteArray.mk #[97, 110, 121]), .string (ByteArray.mk #[116, 105, 109, 101]), .string (ByteArray.mk #[112, 114, 105, 111, 114, 105, 116, 121]), .string (ByteArray.mk #[100, 101, 97, 100, 108, 105, 110, 101])] 9 (0, 0)) := hN47.blk
  refine wl_op rfl (op_build (v := .agg #[.string (ByteArray.mk #[111, 114, 100, 101, 114]), .slice (some ⟨b46, 0, none⟩) 4 4, .int .i64 4]) rfl (fun w => by kernel_rfl) rfl ?_)
  refine wl_op rfl (op_build (v := .agg #[.string (ByteArray.mk #[116, 104, 114, 101, 97, 100]), .slice (some ⟨b6, 0, none⟩) 2 2, .int .i64 2, .string (ByteArray.mk #[108, 105, 102, 101, 115, 112, 97, 110]), .slice (some ⟨b10, 0, none⟩) 2 2, .int .i64 2, .string (ByteArray.mk #[117, 110, 105, 113, 117, 101]), .slice (some ⟨b14, 0, none⟩) 2 2, .int .i64 2, .string (ByteArray.mk #[97, 115, 115, 105, 103, 110]), .slice (some ⟨b18, 0, none⟩) 2 2, .int .i64 2, .string (ByteArray.mk #[114, 101, 116, 97, 105, 110]), .slice (some ⟨b22, 0, none⟩) 2 2, .int .i64 2, .string (ByteArray.mk #[112, 114, 111, 99, 101, 115, 115]), .slice (some ⟨b26, 0, none⟩) 3 3, .int .i64 3, .string (ByteArray.mk #[97, 99, 116, 105, 118, 97, 116, 101]), .slice (some ⟨b30, 0, none⟩) 2 2, .int .i64 2, .string (ByteArray.mk #[114, 101, 98, 105, 110, 100]), .slice (some ⟨b34, 0, none⟩) 3 3, .int .i64 3, .string (ByteArray.mk #[99, 101, 114, 116, 97, 105, 110, 116, 121]), .slice (some ⟨b38, 0, none⟩) 4 4, .int .i64 4, .string (ByteArray.mk #[108, 105, 109, 105, 116]), .slice none 0 0, .int .i64 1000000, .string (ByteArray.mk #[114, 111, 117, 116, 101]), .slice (some ⟨b42, 0, none⟩) 3 3, .int .i64 3, .string (ByteArray.mk #[112, 114, 105, 111, 114, 105, 116, 121]), .slice none 0 0, .int .i64 100, .string (ByteArray.mk #[111, 114, 100, 101, 114]), .slice (some ⟨b46, 0, none⟩) 4 4, .int .i64 4]) rfl (fun w => by kernel_rfl) rfl ?_)
  have hb49 : W45.heap[b2]? = some (.cells #[.string ByteArray.empty, .slice none 0 0, .int .i64 0, .string ByteArray.empty, .slice none 0 0, .int .i64 0, .string ByteArray.empty, .slice none 0 0, .int .i64 0, .string ByteArray.empty, .slice none 0 0, .int .i64 0, .string ByteArray.empty, .slice none 0 0, .int .i64 0, .string ByteArray.empty, .slice none 0 0, .int .i64 0, .string ByteArray.empty, .slice none 0 0, .int .i64 0, .string ByteArray.empty, .slice none 0 0, .int .i64 0, .string ByteArray.empty, .slice none 0 0, .int .i64 0, .string ByteArray.empty, .slice none 0 0, .int .i64 0, .string ByteArray.empty, .slice none 0 0, .int .i64 0, .string ByteArray.empty, .slice none 0 0, .int .i64 0, .string ByteArray.empty, .slice none 0 0, .int .i64 0] 80 (0, 0)) := (blk_ext (blk_ext (blk_ext (blk_ext (blk_ext (blk_ext (blk_ext (blk_ext (blk_ext (blk_ext (blk_ext hb4 hN7.ext) hN11.ext) hN15.ext) hN19.ext) hN23.ext) hN27.ext) hN31.ext) hN35.ext) hN39.ext) hN43.ext) hN47.ext)
  refine wl_op rfl (op_storeW rfl rfl sz80 hb49 rfl rfl ?_)
  intro W50 hP51 hb52
  have hb52 : W50.heap[b2]? = some (.cells #[.string (ByteArray.mk #[116, 104, 114, 101, 97, 100]), .slice (some ⟨b6, 0, none⟩) 2 2, .int .i64 2, .string (ByteArray.mk #[108, 105, 102, 101, 115, 112, 97, 110]), .slice (some ⟨b10, 0, none⟩) 2 2, .int .i64 2, .string (ByteArray.mk #[117, 110, 105, 113, 117, 101]), .slice (some ⟨b14, 0, none⟩) 2 2, .int .i64 2, .string (ByteArray.mk #[97, 115, 115, 105, 103, 110]), .slice (some ⟨b18, 0, none⟩) 2 2, .int .i64 2, .string (ByteArray.mk #[114, 101, 116, 97, 105, 110]), .slice (some ⟨b22, 0, none⟩) 2 2, .int .i64 2, .string (ByteArray.mk #[112, 114, 111, 99, 101, 115, 115]), .slice (some ⟨b26, 0, none⟩) 3 3, .int .i64 3, .string (ByteArray.mk #[97, 99, 116, 105, 118, 97, 116, 101]), .slice (some ⟨b30, 0, none⟩) 2 2, .int .i64 2, .string (ByteArray.mk #[114, 101, 98, 105, 110, 100]), .slice (some ⟨b34, 0, none⟩) 3 3, .int .i64 3, .string (ByteArray.mk #[99, 101, 114, 116, 97, 105, 110, 116, 121]), .slice (some ⟨b38, 0, none⟩) 4 4, .int .i64 4, .string (ByteArray.mk #[108, 105, 109, 105, 116]), .slice none 0 0, .int .i64 1000000, .string (ByteArray.mk #[114, 111, 117, 116, 101]), .slice (some ⟨b42, 0, none⟩) 3 3, .int .i64 3, .string (ByteArray.mk #[112, 114, 105, 111, 114, 105, 116, 121]), .slice none 0 0, .int .i64 100, .string (ByteArray.mk #[111, 114, 100, 101, 114]), .slice (some ⟨b46, 0, none⟩) 4 4, .int .i64 4] 80 (0, 0)) := hb52
  refine (wl_done (then_norm ?_))
  refine WC.sub [(0, .pointer (some ⟨b2, 0, none⟩))] ⟨rfl, trivial⟩ ?_
  refine wc_ret ?_
  have hB53 : Below w.heap.size w W50 := (hP51.below (below_new (below_new (below_new (below_new (below_new (below_new (below_new (below_new (below_new (below_new (below_new (below_new (Below.refl _ _) hN3) hN7) hN11) hN15) hN19) hN23) hN27) hN31) hN35) hN39) hN43) hN47) (le_new (Below.refl _ _) hN3))
  refine ⟨[_], ⟨⟨_, rfl, run_loadVar_agg (vs := [.string (ByteArray.mk #[116, 104, 114, 101, 97, 100]), .slice (some ⟨b6, 0, none⟩) 2 2, .int .i64 2, .string (ByteArray.mk #[108, 105, 102, 101, 115, 112, 97, 110]), .slice (some ⟨b10, 0, none⟩) 2 2, .int .i64 2, .string (ByteArray.mk #[117, 110, 105, 113, 117, 101]), .slice (some ⟨b14, 0, none⟩) 2 2, .int .i64 2, .string (ByteArray.mk #[97, 115, 115, 105, 103, 110]), .slice (some ⟨b18, 0, none⟩) 2 2, .int .i64 2, .string (ByteArray.mk #[114, 101, 116, 97, 105, 110]), .slice (some ⟨b22, 0, none⟩) 2 2, .int .i64 2, .string (ByteArray.mk #[112, 114, 111, 99, 101, 115, 115]), .slice (some ⟨b26, 0, none⟩) 3 3, .int .i64 3, .string (ByteArray.mk #[97, 99, 116, 105, 118, 97, 116, 101]), .slice (some ⟨b30, 0, none⟩) 2 2, .int .i64 2, .string (ByteArray.mk #[114, 101, 98, 105, 110, 100]), .slice (some ⟨b34, 0, none⟩) 3 3, .int .i64 3, .string (ByteArray.mk #[99, 101, 114, 116, 97, 105, 110, 116, 121]), .slice (some ⟨b38, 0, none⟩) 4 4, .int .i64 4, .string (ByteArray.mk #[108, 105, 109, 105, 116]), .slice none 0 0, .int .i64 1000000, .string (ByteArray.mk #[114, 111, 117, 116, 101]), .slice (some ⟨b42, 0, none⟩) 3 3, .int .i64 3, .string (ByteArray.mk #[112, 114, 105, 111, 114, 105, 116, 121]), .slice none 0 0, .int .i64 100, .string (ByteArray.mk #[111, 114, 100, 101, 114]), .slice (some ⟨b46, 0, none⟩) 4 4, .int .i64 4]) agg80 sz80 rfl (cells_blk hb52)⟩, trivial⟩, ⟨⟨_, _, _, _, _, _, _, _, _, _, _, rfl⟩, hB53⟩⟩
  skip

theorem kinds_index {v : Value} (h : IsKinds v) {k : Int} (h1 : 1 ≤ k) (h2 : k ≤ 13) : ∃ u, (∀ w, (Instr.index 80 v (.int .i64 (k - 1))).run Try.prog w = .ok u w) ∧ IsKind k u := by
  obtain ⟨b1, b2, b3, b4, b5, b6, b7, b8, b9, b11, b13, rfl⟩ := h
  have hk : k = 1 ∨ k = 2 ∨ k = 3 ∨ k = 4 ∨ k = 5 ∨ k = 6 ∨ k = 7 ∨ k = 8 ∨ k = 9 ∨ k = 10 ∨ k = 11 ∨ k = 12 ∨ k = 13 := by omega
  rcases hk with rfl | rfl | rfl | rfl | rfl | rfl | rfl | rfl | rfl | rfl | rfl | rfl | rfl
  · exact ⟨.agg #[.string (ByteArray.mk #[116, 104, 114, 101, 97, 100]), .slice (some ⟨b1, 0, none⟩) 2 2, .int .i64 2], fun w => by kernel_rfl, _, _, rfl⟩
  · exact ⟨.agg #[.string (ByteArray.mk #[108, 105, 102, 101, 115, 112, 97, 110]), .slice (some ⟨b2, 0, none⟩) 2 2, .int .i64 2], fun w => by kernel_rfl, _, _, rfl⟩
  · exact ⟨.agg #[.string (ByteArray.mk #[117, 110, 105, 113, 117, 101]), .slice (some ⟨b3, 0, none⟩) 2 2, .int .i64 2], fun w => by kernel_rfl, _, _, rfl⟩
  · exact ⟨.agg #[.string (ByteArray.mk #[97, 115, 115, 105, 103, 110]), .slice (some ⟨b4, 0, none⟩) 2 2, .int .i64 2], fun w => by kernel_rfl, _, _, rfl⟩
  · exact ⟨.agg #[.string (ByteArray.mk #[114, 101, 116, 97, 105, 110]), .slice (some ⟨b5, 0, none⟩) 2 2, .int .i64 2], fun w => by kernel_rfl, _, _, rfl⟩
  · exact ⟨.agg #[.string (ByteArray.mk #[112, 114, 111, 99, 101, 115, 115]), .slice (some ⟨b6, 0, none⟩) 3 3, .int .i64 3], fun w => by kernel_rfl, _, _, rfl⟩
  · exact ⟨.agg #[.string (ByteArray.mk #[97, 99, 116, 105, 118, 97, 116, 101]), .slice (some ⟨b7, 0, none⟩) 2 2, .int .i64 2], fun w => by kernel_rfl, _, _, rfl⟩
  · exact ⟨.agg #[.string (ByteArray.mk #[114, 101, 98, 105, 110, 100]), .slice (some ⟨b8, 0, none⟩) 3 3, .int .i64 3], fun w => by kernel_rfl, _, _, rfl⟩
  · exact ⟨.agg #[.string (ByteArray.mk #[99, 101, 114, 116, 97, 105, 110, 116, 121]), .slice (some ⟨b9, 0, none⟩) 4 4, .int .i64 4], fun w => by kernel_rfl, _, _, rfl⟩
  · exact ⟨.agg #[.string (ByteArray.mk #[108, 105, 109, 105, 116]), .slice none 0 0, .int .i64 1000000], fun w => by kernel_rfl, _, _, rfl⟩
  · exact ⟨.agg #[.string (ByteArray.mk #[114, 111, 117, 116, 101]), .slice (some ⟨b11, 0, none⟩) 3 3, .int .i64 3], fun w => by kernel_rfl, _, _, rfl⟩
  · exact ⟨.agg #[.string (ByteArray.mk #[112, 114, 105, 111, 114, 105, 116, 121]), .slice none 0 0, .int .i64 100], fun w => by kernel_rfl, _, _, rfl⟩
  · exact ⟨.agg #[.string (ByteArray.mk #[111, 114, 100, 101, 114]), .slice (some ⟨b13, 0, none⟩) 4 4, .int .i64 4], fun w => by kernel_rfl, _, _, rfl⟩


theorem least_eq (k : Int) : (if (1 : Int) < ((wordsN k : Nat) : Int) then (1 : Int) else ((wordsN k : Nat) : Int)) = leastI k := by
  unfold wordsN leastI
  repeat' split
  all_goals omega

theorem least_spec {w : World} {k : Int} (h1 : 1 ≤ k) (h2 : k ≤ 13) : Ret Try.prog 59 #[.int .i64 k] w (fun v w' => v = .int .i64 (leastI k) ∧ Below w.heap.size w w') := by
  refine ret_of (args := [.int .i64 k]) Try.func59 rfl Try.ntmps59 rfl (rs := [.tmp 2]) rfl ?_
  refine wc_seq ?_
  refine wc_region ?_
  refine wl_op rfl (op_assign rfl rfl ?_)
  refine (wl_done (then_norm ?_))
  refine wc_seq ?_
  refine wc_region ?_
  refine wl_op rfl (op_call ent65 rfl (kinds_spec) rfl ?_)
  rintro v4 W2 ⟨hp1, hE3⟩
  refine wl_op rfl (op_move rfl rfl ?_)
  refine wl_op rfl (op_sub (r := k - 1) rfl rfl (by omega) (by omega) rfl ?_)
  obtain ⟨u5, hu6, s7, A8, rfl⟩ := kinds_index hp1 (k := k) (by omega) (by omega)
  refine wl_op rfl (op_index rfl rfl hu6 rfl ?_)
  refine wl_op rfl (op_field (v := .slice A8 (wordsN k) (wordsN k)) rfl (fun w => by kernel_rfl) rfl ?_)
  refine wl_op rfl (op_len_slice rfl rfl und77 rfl rfl ?_)
  refine wl_op rfl (op_min rfl rfl rfl rfl ?_)
  refine wl_op rfl (op_assign rfl rfl ?_)
  refine (wl_done (then_norm ?_))
  refine WC.sub [(2, .int .i64 (if 1 < ((wordsN k : Nat) : Int) then 1 else ((wordsN k : Nat) : Int)))] ⟨rfl, trivial⟩ ?_
  refine wc_ret ?_
  have hB9 : Below w.heap.size w W2 := (below_step (Below.refl _ _) hE3)
  refine ⟨[_], ⟨rfl, trivial⟩, ⟨?_, hB9⟩⟩
  exact congrArg (Value.int .i64) (least_eq k)

theorem isB_iff {k : Int} : isB k = true ↔ 1 ≤ k ∧ k ≤ 13 := by simp [isB]

theorem Valid_spec {w : World} {a : Int} {b : Int} : Ret Try.prog 25 #[.agg #[.int .i64 a, .int .i64 b]] w (fun v w' => v = .bool (validB ⟨a, b⟩) ∧ Below w.heap.size w w') := by
  refine ret_of (args := [.agg #[.int .i64 a, .int .i64 b]]) Try.func25 rfl Try.ntmps25 rfl (rs := [.tmp 2]) rfl ?_
  refine wc_seq ?_
  refine wc_region ?_
  refine wl_op rfl (op_box rfl rfl ?_)
  intro W1 b2 hN3
  have hb4 : W1.heap[b2]? = some (.cells #[.int .i64 a, .int .i64 b] 46 (0, 0)) := hN3.blk
  refine wl_op rfl (op_assign rfl rfl ?_)
  refine (wl_done (then_norm ?_))
  refine wc_seq ?_
  refine wc_draw mixed [(1, .pointer (some ⟨b2, 0, none⟩))] ⟨rfl, trivial⟩ [fun v _ => v = .pointer (some ⟨b2, 0 + 0, none⟩), fun v _ => v = .int .i64 a, fun v _ => v = .bool (isB a), fun v _ => v = .bool (isB a), fun v _ => v = (bif (isB a) then (.pointer (some ⟨b2, 0 + 1, none⟩)) else undef), fun v _ => v = (bif (isB a) then (.int .i64 b) else undef), fun v _ => v = (bif (isB a) then (.pointer (some ⟨b2, 0 + 0, none⟩)) else undef), fun v _ => v = (bif (isB a) then (.int .i64 a) else undef), fun v _ => v = (bif (isB a) then (.int .i64 (leastI a)) else undef), fun v _ => v = (bif (isB a) then (.bool (decide (leastI a ≤ b))) else undef), fun v _ => v = .bool ((isB a) && (decide (leastI a ≤ b))), fun v _ => v = .bool ((isB a) && (decide (leastI a ≤ b))), fun v _ => v = (bif ((isB a) && (decide (leastI a ≤ b))) then (.pointer (some ⟨b2, 0 + 1, none⟩)) else undef), fun v _ => v = (bif ((isB a) && (decide (leastI a ≤ b))) then (.int .i64 b) else undef), fun v W => ((isB a) && (decide (leastI a ≤ b))) = true → IsKinds v, fun v _ => v = (bif ((isB a) && (decide (leastI a ≤ b))) then (.pointer (some ⟨b2, 0 + 0, none⟩)) else undef), fun v _ => v = (bif ((isB a) && (decide (leastI a ≤ b))) then (.int .i64 a) else undef), fun v _ => v = (bif ((isB a) && (decide (leastI a ≤ b))) then (.int .i64 (a - 1)) else undef), fun v W => ((isB a) && (decide (leastI a ≤ b))) = true → IsKind a v, fun v _ => v = (bif ((isB a) && (decide (leastI a ≤ b))) then (.int .i64 (mostI a)) else undef), fun v _ => v = (bif ((isB a) && (decide (leastI a ≤ b))) then (.bool (decide (b ≤ mostI a))) else undef), fun v _ => v = .bool (((isB a) && (decide (leastI a ≤ b))) && (decide (b ≤ mostI a))), fun v _ => v = .bool (((isB a) && (decide (leastI a ≤ b))) && (decide (b ≤ mostI a)))] [[], [0], [1], [2], [3], [3, 4], [3], [3, 6], [3, 7], [3, 5, 8], [3, 9], [10], [11], [11, 12], [11], [11], [11, 15], [11, 16], [11, 14, 17], [11, 18], [11, 13, 19], [11, 20], [21]] [22] rfl rfl rfl ⟨fun _ _ _ _ h => h, fun _ _ _ _ h => h, fun _ _ _ _ h => h, fun _ _ _ _ h => h, fun _ _ _ _ h => h, fun _ _ _ _ h => h, fun _ _ _ _ h => h, fun _ _ _ _ h => h, fun _ _ _ _ h => h, fun _ _ _ _ h => h, fun _ _ _ _ h => h, fun _ _ _ _ h => h, fun _ _ _ _ h => h, fun _ _ _ _ h => h, fun _ _ _ _ h => h, fun _ _ _ _ h => h, fun _ _ _ _ h => h, fun _ _ _ _ h => h, fun _ _ _ _ h => h, fun _ _ _ _ h => h, fun _ _ _ _ h => h, fun _ _ _ _ h => h, fun _ _ _ _ h => h, trivial⟩ ⟨?_, ?_, ?_, ?_, ?_, ?_, ?_, ?_, ?_, ?_, ?_, ?_, ?_, ?_, ?_, ?_, ?_, ?_, ?_, ?_, ?_, ?_, ?_, trivial⟩ ?_
  · intro W5 hW6
    refine gather_nil ?_
    refine opg_none rfl ?_
    exact op_fieldAddr rfl fa46_0 rfl ⟨told rfl rfl rfl, (Below.refl _ _)⟩
  · intro W5 hW6
    rintro _ rfl
    refine gather_nil ?_
    refine opg_none rfl ?_
    have hb12 : W5.heap[b2]? = some (.cells #[.int .i64 a, .int .i64 b] 46 (0, 0)) := (blk_ext hb4 hW6)
    exact op_load1 (v := .int .i64 a) rfl agg3 (cell_blk hb12 rfl) rfl ⟨told rfl rfl rfl, (Below.refl _ _)⟩
  · intro W5 hW6
    rintro _ rfl
    refine gather_nil ?_
    refine opg_none rfl ?_
    refine op_call ent52 rfl (is_spec) rfl ?_
    rintro _ W13 ⟨rfl, hE14⟩
    exact ⟨told rfl rfl rfl, hE14⟩
  · intro W5 hW6
    rintro _ rfl
    refine gather_nil ?_
    refine opg_none rfl ?_
    exact op_move rfl rfl ⟨told rfl rfl rfl, (Below.refl _ _)⟩
  · intro W5 hW6
    rintro _ rfl
    refine gather_nil ?_
    refine opg_t1 rfl rfl (fun hg15 => ?_) (fun h => by rw [h, cond_false])
    exact op_fieldAddr rfl fa46_1 rfl ⟨told rfl rfl (by rw [hg15, cond_true]), (Below.refl _ _)⟩
  · intro W5 hW6
    rintro _ rfl
    intro v16 (hv17 : v16 = bif (isB a) then (.pointer (some ⟨b2, 0 + 1, none⟩)) else undef)
    refine gather_nil ?_
    refine opg_t1 rfl rfl (fun hg18 => ?_) (fun h => by rw [h, cond_false])
    obtain rfl : v16 = .pointer (some ⟨b2, 0 + 1, none⟩) := by rw [hv17, hg18, cond_true]
    have hb19 : W5.heap[b2]? = some (.cells #[.int .i64 a, .int .i64 b] 46 (0, 0)) := (blk_ext hb4 hW6)
    exact op_load1 (v := .int .i64 b) rfl agg3 (cell_blk hb19 rfl) rfl ⟨told rfl rfl (by rw [hg18, cond_true]), (Below.refl _ _)⟩
  · intro W5 hW6
    rintro _ rfl
    refine gather_nil ?_
    refine opg_t1 rfl rfl (fun hg20 => ?_) (fun h => by rw [h, cond_false])
    exact op_fieldAddr rfl fa46_0 rfl ⟨told rfl rfl (by rw [hg20, cond_true]), (Below.refl _ _)⟩
  · intro W5 hW6
    rintro _ rfl
    intro v21 (hv22 : v21 = bif (isB a) then (.pointer (some ⟨b2, 0 + 0, none⟩)) else undef)
    refine gather_nil ?_
    refine opg_t1 rfl rfl (fun hg23 => ?_) (fun h => by rw [h, cond_false])
    obtain rfl : v21 = .pointer (some ⟨b2, 0 + 0, none⟩) := by rw [hv22, hg23, cond_true]
    have hb24 : W5.heap[b2]? = some (.cells #[.int .i64 a, .int .i64 b] 46 (0, 0)) := (blk_ext hb4 hW6)
    exact op_load1 (v := .int .i64 a) rfl agg3 (cell_blk hb24 rfl) rfl ⟨told rfl rfl (by rw [hg23, cond_true]), (Below.refl _ _)⟩
  · intro W5 hW6
    rintro _ rfl
    intro v25 (hv26 : v25 = bif (isB a) then (.int .i64 a) else undef)
    refine gather_nil ?_
    refine opg_t1 rfl rfl (fun hg27 => ?_) (fun h => by rw [h, cond_false])
    obtain rfl : v25 = .int .i64 a := by rw [hv26, hg27, cond_true]
    obtain ⟨hgk1, hgk2⟩ := isB_iff.1 hg27
    refine op_call ent59 rfl (least_spec hgk1 hgk2) rfl ?_
    rintro _ W3 ⟨rfl, hE⟩
    exact ⟨told rfl rfl (by rw [hg27, cond_true]), hE⟩
  · intro W5 hW6
    rintro _ rfl
    intro v28 (hv29 : v28 = bif (isB a) then (.int .i64 b) else undef)
    intro v30 (hv31 : v30 = bif (isB a) then (.int .i64 (leastI a)) else undef)
    refine gather_nil ?_
    refine opg_t1 rfl rfl (fun hg32 => ?_) (fun h => by rw [h, cond_false])
    obtain rfl : v28 = .int .i64 b := by rw [hv29, hg32, cond_true]
    obtain rfl : v30 = .int .i64 (leastI a) := by rw [hv31, hg32, cond_true]
    exact op_geq rfl rfl rfl ⟨told rfl rfl (by rw [hg32, cond_true]), (Below.refl _ _)⟩
  · intro W5 hW6
    rintro _ rfl
    intro v33 (hv34 : v33 = bif (isB a) then (.bool (decide (leastI a ≤ b))) else undef)
    refine gather_nil ?_
    refine opg_none rfl ?_
    exact op_and rfl rfl rfl (fun h => by rw [hv34, h, cond_true]) rfl ⟨told rfl rfl rfl, (Below.refl _ _)⟩
  · intro W5 hW6
    rintro _ rfl
    refine gather_nil ?_
    refine opg_none rfl ?_
    exact op_move rfl rfl ⟨told rfl rfl rfl, (Below.refl _ _)⟩
  · intro W5 hW6
    rintro _ rfl
    refine gather_nil ?_
    refine opg_t1 rfl rfl (fun hg35 => ?_) (fun h => by rw [h, cond_false])
    exact op_fieldAddr rfl fa46_1 rfl ⟨told rfl rfl (by rw [hg35, cond_true]), (Below.refl _ _)⟩
  · intro W5 hW6
    rintro _ rfl
    intro v36 (hv37 : v36 = bif ((isB a) && (decide (leastI a ≤ b))) then (.pointer (some ⟨b2, 0 + 1, none⟩)) else undef)
    refine gather_nil ?_
    refine opg_t1 rfl rfl (fun hg38 => ?_) (fun h => by rw [h, cond_false])
    obtain rfl : v36 = .pointer (some ⟨b2, 0 + 1, none⟩) := by rw [hv37, hg38, cond_true]
    have hb39 : W5.heap[b2]? = some (.cells #[.int .i64 a, .int .i64 b] 46 (0, 0)) := (blk_ext hb4 hW6)
    exact op_load1 (v := .int .i64 b) rfl agg3 (cell_blk hb39 rfl) rfl ⟨told rfl rfl (by rw [hg38, cond_true]), (Below.refl _ _)⟩
  · intro W5 hW6
    rintro _ rfl
    refine gather_nil ?_
    refine opg_t1 rfl rfl (fun hg40 => ?_) (fun h h2 => absurd (h.symm.trans h2) (by decide))
    refine op_call ent65 rfl kinds_spec rfl ?_
    rintro v W3 ⟨hI, hE⟩
    exact ⟨told rfl rfl (fun _ => hI), hE⟩
  · intro W5 hW6
    rintro _ rfl
    refine gather_nil ?_
    refine opg_t1 rfl rfl (fun hg41 => ?_) (fun h => by rw [h, cond_false])
    exact op_fieldAddr rfl fa46_0 rfl ⟨told rfl rfl (by rw [hg41, cond_true]), (Below.refl _ _)⟩
  · intro W5 hW6
    rintro _ rfl
    intro v42 (hv43 : v42 = bif ((isB a) && (decide (leastI a ≤ b))) then (.pointer (some ⟨b2, 0 + 0, none⟩)) else undef)
    refine gather_nil ?_
    refine opg_t1 rfl rfl (fun hg44 => ?_) (fun h => by rw [h, cond_false])
    obtain rfl : v42 = .pointer (some ⟨b2, 0 + 0, none⟩) := by rw [hv43, hg44, cond_true]
    have hb45 : W5.heap[b2]? = some (.cells #[.int .i64 a, .int .i64 b] 46 (0, 0)) := (blk_ext hb4 hW6)
    exact op_load1 (v := .int .i64 a) rfl agg3 (cell_blk hb45 rfl) rfl ⟨told rfl rfl (by rw [hg44, cond_true]), (Below.refl _ _)⟩
  · intro W5 hW6
    rintro _ rfl
    intro v46 (hv47 : v46 = bif ((isB a) && (decide (leastI a ≤ b))) then (.int .i64 a) else undef)
    refine gather_nil ?_
    refine opg_t1 rfl rfl (fun hg48 => ?_) (fun h => by rw [h, cond_false])
    obtain ⟨ga, gb⟩ := isB_iff.1 (and_l hg48)
    obtain rfl : v46 = .int .i64 a := by rw [hv47, hg48, cond_true]
    exact op_sub (r := a - 1) rfl rfl (by omega) (by omega) rfl ⟨told rfl rfl (by rw [hg48, cond_true]), (Below.refl _ _)⟩
  · intro W5 hW6
    rintro _ rfl
    intro v49 hv50
    intro v51 (hv52 : v51 = bif ((isB a) && (decide (leastI a ≤ b))) then (.int .i64 (a - 1)) else undef)
    refine gather_nil ?_
    refine opg_t1 rfl rfl (fun hg53 => ?_) (fun h h2 => absurd (h.symm.trans h2) (by decide))
    obtain rfl : v51 = .int .i64 (a - 1) := by rw [hv52, hg53, cond_true]
    obtain ⟨hgk1, hgk2⟩ := isB_iff.1 (and_l hg53)
    obtain ⟨u, hu, hI⟩ := kinds_index (hv50 hg53) (k := a) hgk1 hgk2
    exact op_index rfl rfl hu rfl ⟨told rfl rfl (fun _ => hI), Below.refl _ _⟩
  · intro W5 hW6
    rintro _ rfl
    intro v54 hv55
    refine gather_nil ?_
    refine opg_t1 rfl rfl (fun hg56 => ?_) (fun h => by rw [h, cond_false])
    obtain ⟨S1, A1, rfl⟩ := hv55 hg56
    exact op_field rfl (fun w => by kernel_rfl) rfl ⟨told rfl rfl (by rw [hg56, cond_true]), Below.refl _ _⟩
  · intro W5 hW6
    rintro _ rfl
    intro v57 (hv58 : v57 = bif ((isB a) && (decide (leastI a ≤ b))) then (.int .i64 b) else undef)
    intro v59 (hv60 : v59 = bif ((isB a) && (decide (leastI a ≤ b))) then (.int .i64 (mostI a)) else undef)
    refine gather_nil ?_
    refine opg_t1 rfl rfl (fun hg61 => ?_) (fun h => by rw [h, cond_false])
    obtain rfl : v57 = .int .i64 b := by rw [hv58, hg61, cond_true]
    obtain rfl : v59 = .int .i64 (mostI a) := by rw [hv60, hg61, cond_true]
    exact op_leq rfl rfl rfl ⟨told rfl rfl (by rw [hg61, cond_true]), (Below.refl _ _)⟩
  · intro W5 hW6
    rintro _ rfl
    intro v62 (hv63 : v62 = bif ((isB a) && (decide (leastI a ≤ b))) then (.bool (decide (b ≤ mostI a))) else undef)
    refine gather_nil ?_
    refine opg_none rfl ?_
    exact op_and rfl rfl rfl (fun h => by rw [hv63, h, cond_true]) rfl ⟨told rfl rfl rfl, (Below.refl _ _)⟩
  · intro W5 hW6
    rintro _ rfl
    refine gather_nil ?_
    refine opg_none rfl ?_
    exact op_assign rfl rfl ⟨told rfl rfl rfl, (Below.refl _ _)⟩
  intro W64 hW65
  rintro _ rfl
  refine gather_nil ?_
  refine (then_norm ?_)
  refine wc_ret ?_
  have hB66 : Below w.heap.size w W64 := (below_step (below_new (Below.refl _ _) hN3) hW65)
  refine ⟨[_], ⟨rfl, trivial⟩, ⟨?_, hB66⟩⟩
  exact rfl

def okAt (s : List Pol) (i : Nat) : Bool := match s[i]? with
  | none => true
  | some p => validB p && (decide (i = 0) || match s[i - 1]? with
    | none => true
    | some q => decide (q.kind < p.kind))
def validSet (s : List Pol) : Bool := (List.range s.length).all (okAt s)
theorem validSet_iff {s : List Pol} : validSet s = true ↔ ∀ i, i < s.length → okAt s i = true := by simp [validSet, List.all_eq_true]
theorem okAt_eq {s : List Pol} {k : Nat} {p q : Pol} (hp : s[k]? = some p) (hq : k - 1 < s.length → s[k - 1]? = some q) :
    okAt s k = !((!(validB ⟨p.kind, p.val⟩)) || ((decide (0 < (k : Int))) && (decide (p.kind ≤ q.kind)))) := by
  have hk := (List.getElem?_eq_some_iff.1 hp).1
  unfold okAt
  rw [hp, hq (by omega)]
  simp only []
  by_cases h0 : k = 0
  · subst h0; simp
  · have : (0 : Int) < (k : Int) := by omega
    by_cases h1 : q.kind < p.kind
    · have h2 : ¬ p.kind ≤ q.kind := by omega
      simp [h0, h1, h2]
    · have h2 : p.kind ≤ q.kind := by omega
      have : 0 < k := by omega
      simp [h0, h1, h2, this]
theorem validSet_false {s : List Pol} {k : Nat} (hk : k < s.length) (h : okAt s k = false) : validSet s = false := by
  rw [Bool.eq_false_iff]; intro hv
  rw [validSet_iff.1 hv k hk] at h; cases h

theorem ValidSet_spec {w : World} {A : Option Addr} {n c : Nat} {s : List Pol} (hs : RdP w A n s) : Ret Try.prog 27 #[.slice A n c] w (fun v w' => v = .bool (validSet s) ∧ Below w.heap.size w w') := by
  obtain ⟨bs1, os2, hA3, hc4⟩ := hs.flat
  have hln5 := hs.len
  have hbd6 := hs.bd
  have hlen_s := hs.len
  refine ret_of (args := [.slice A n c]) Try.func27 rfl Try.ntmps27 rfl (rs := [.tmp 2]) rfl ?_
  refine wc_seq ?_
  refine wc_region ?_
  refine wl_op rfl (op_assign rfl rfl ?_)
  refine (wl_done (then_norm ?_))
  refine wc_seq ?_
  refine wc_seq ?_
  refine wc_region ?_
  refine wl_op rfl (op_move rfl rfl ?_)
  refine wl_op rfl (op_len_slice rfl rfl und22 rfl rfl ?_)
  refine wl_op rfl (op_move rfl rfl ?_)
  refine (wl_done (then_norm ?_))
  refine wc_block ?_
  refine wc_loop (σ := Nat × World) (fun st_ => [(0, .slice A n c), (2, .bool false), (5, .slice A n c), (6, .int .i64 ((n : Nat) : Int)), (7, .int .i64 (st_.1 : Int))]) (fun st_ => st_.2) (fun st_ => (st_.1 ≤ n) ∧ (∀ i, i < st_.1 → okAt s i = true) ∧ (Below w.heap.size w st_.2)) (fun st_ => n - st_.1) (0, w) ⟨(by omega), (fun i hi => absurd hi (by omega)), (Below.refl _ _)⟩ ⟨rfl, rfl, rfl, rfl, rfl, trivial⟩ rfl ?_
  rintro ⟨k, W7⟩ ⟨hk, hall, hE8⟩
  dsimp only at hk hall hE8
  refine wc_at [(0, .slice A n c), (2, .bool false), (5, .slice A n c), (6, .int .i64 ((n : Nat) : Int)), (7, .int .i64 (k : Int))] W7 ⟨rfl, rfl, rfl, rfl, rfl, trivial⟩ rfl ?_
  refine wc_seq ?_
  refine wc_region ?_
  refine wl_op rfl (op_lss rfl rfl rfl ?_)
  refine (wl_done (then_norm ?_))
  refine wc_seq ?_
  refine wc_cond (b := decide ((k : Int) < ((n : Nat) : Int))) rfl (fun hc9 => ?_) (fun hc9 => ?_)
  · have hc9r := hc9
    have hc9 := of_decide_eq_true hc9
    refine wc_skip ?_
    refine (then_norm ?_)
    refine wc_seq ?_
    refine wc_block ?_
    refine wc_seq ?_
    refine wc_region ?_
    refine wl_op rfl (op_move rfl rfl ?_)
    obtain ⟨x_s_k, hx_s_k⟩ : ∃ x, s[k]? = some x := ⟨_, List.getElem?_eq_getElem (by have := hs.len; omega)⟩
    refine wl_op rfl (op_indexAddr (j := k) rfl rfl und22 sz46 (hA3 (by omega)) rfl (by omega) rfl ?_)
    have hB10 : Below w.heap.size w W7 := (below_step (Below.refl _ _) hE8)
    refine wl_op rfl (op_loadN (vs := [.int .i64 x_s_k.kind, .int .i64 x_s_k.val]) rfl agg46 sz46 rfl ((hc4 k x_s_k hx_s_k).ext hB10) rfl ?_)
    refine wl_op rfl (op_alloc zero46 rfl ?_)
    intro W11 b12 hN13
    have hb14 : W11.heap[b12]? = some (.cells #[.int .i64 0, .int .i64 0] 46 (0, 0)) := hN13.blk
    refine wl_op rfl (op_assign rfl rfl ?_)
    refine wl_op rfl (op_storeW rfl rfl sz46 hb14 rfl rfl ?_)
    intro W15 hP16 hb17
    have hb17 : W15.heap[b12]? = some (.cells #[.int .i64 x_s_k.kind, .int .i64 x_s_k.val] 46 (0, 0)) := hb17
    refine (wl_done (then_norm ?_))
    refine wc_seq ?_
    obtain ⟨x_s_k_1, hx_s_k_1⟩ : ∃ x, (k - 1 < s.length → s[k - 1]? = some x) := by
      by_cases h : k - 1 < s.length
      · exact ⟨_, fun _ => List.getElem?_eq_getElem h⟩
      · exact ⟨(⟨0, 0⟩ : Pol), fun h1 => absurd h1 h⟩
    refine wc_draw mixed [(0, .slice A n c), (2, .bool false), (5, .slice A n c), (6, .int .i64 ((n : Nat) : Int)), (7, .int .i64 (k : Int)), (8, .bool (decide ((k : Int) < ((n : Nat) : Int)))), (9, .int .i64 (k : Int)), (10, .pointer (some ⟨bs1, os2 + k * 2, none⟩)), (11, .agg #[.int .i64 x_s_k.kind, .int .i64 x_s_k.val]), (4, .pointer (some ⟨b12, 0, none⟩)), (3, .int .i64 (k : Int))] ⟨rfl, rfl, rfl, rfl, rfl, rfl, rfl, rfl, rfl, rfl, rfl, trivial⟩ [fun v _ => v = .agg #[.int .i64 x_s_k.kind, .int .i64 x_s_k.val], fun v _ => v = .bool (validB ⟨x_s_k.kind, x_s_k.val⟩), fun v _ => v = .bool (!(validB ⟨x_s_k.kind, x_s_k.val⟩)), fun v _ => v = .bool (!(validB ⟨x_s_k.kind, x_s_k.val⟩)), fun v _ => v = (bif (!(!(validB ⟨x_s_k.kind, x_s_k.val⟩))) then (.int .i64 (k : Int)) else undef), fun v _ => v = (bif (!(!(validB ⟨x_s_k.kind, x_s_k.val⟩))) then (.bool (decide (0 < (k : Int)))) else undef), fun v _ => v = (bif (!(!(validB ⟨x_s_k.kind, x_s_k.val⟩))) then (.bool (decide (0 < (k : Int)))) else undef), fun v _ => v = (bif ((!(!(validB ⟨x_s_k.kind, x_s_k.val⟩))) && (decide (0 < (k : Int)))) then (.pointer (some ⟨b12, 0 + 0, none⟩)) else undef), fun v _ => v = (bif ((!(!(validB ⟨x_s_k.kind, x_s_k.val⟩))) && (decide (0 < (k : Int)))) then (.int .i64 x_s_k.kind) else undef), fun v _ => v = (bif ((!(!(validB ⟨x_s_k.kind, x_s_k.val⟩))) && (decide (0 < (k : Int)))) then (.slice A n c) else undef), fun v _ => v = (bif ((!(!(validB ⟨x_s_k.kind, x_s_k.val⟩))) && (decide (0 < (k : Int)))) then (.int .i64 (k : Int)) else undef), fun v _ => v = (bif ((!(!(validB ⟨x_s_k.kind, x_s_k.val⟩))) && (decide (0 < (k : Int)))) then (.int .i64 ((k : Int) - 1)) else undef), fun v _ => v = (bif ((!(!(validB ⟨x_s_k.kind, x_s_k.val⟩))) && (decide (0 < (k : Int)))) then (.pointer (some ⟨bs1, os2 + (k - 1) * 2, none⟩)) else undef), fun v _ => v = (bif ((!(!(validB ⟨x_s_k.kind, x_s_k.val⟩))) && (decide (0 < (k : Int)))) then (.pointer (some ⟨bs1, os2 + (k - 1) * 2 + 0, none⟩)) else undef), fun v _ => v = (bif ((!(!(validB ⟨x_s_k.kind, x_s_k.val⟩))) && (decide (0 < (k : Int)))) then (.int .i64 x_s_k_1.kind) else undef), fun v _ => v = (bif ((!(!(validB ⟨x_s_k.kind, x_s_k.val⟩))) && (decide (0 < (k : Int)))) then (.bool (decide (x_s_k.kind ≤ x_s_k_1.kind))) else undef), fun v _ => v = (bif (!(!(validB ⟨x_s_k.kind, x_s_k.val⟩))) then (.bool ((decide (0 < (k : Int))) && (decide (x_s_k.kind ≤ x_s_k_1.kind)))) else undef), fun v _ => v = .bool ((!(validB ⟨x_s_k.kind, x_s_k.val⟩)) || ((decide (0 < (k : Int))) && (decide (x_s_k.kind ≤ x_s_k_1.kind))))] [[], [0], [1], [2], [3], [3, 4], [3, 5], [6], [6, 7], [6], [6], [6, 10], [6, 9, 11], [6, 12], [6, 13], [6, 8, 14], [3, 6, 15], [3, 16]] [0, 1, 2, 3, 17] rfl rfl rfl ⟨fun _ _ _ _ h => h, fun _ _ _ _ h => h, fun _ _ _ _ h => h, fun _ _ _ _ h => h, fun _ _ _ _ h => h, fun _ _ _ _ h => h, fun _ _ _ _ h => h, fun _ _ _ _ h => h, fun _ _ _ _ h => h, fun _ _ _ _ h => h, fun _ _ _ _ h => h, fun _ _ _ _ h => h, fun _ _ _ _ h => h, fun _ _ _ _ h => h, fun _ _ _ _ h => h, fun _ _ _ _ h => h, fun _ _ _ _ h => h, fun _ _ _ _ h => h, trivial⟩ ⟨?_, ?_, ?_, ?_, ?_, ?_, ?_, ?_, ?_, ?_, ?_, ?_, ?_, ?_, ?_, ?_, ?_, ?_, trivial⟩ ?_
    · intro W18 hW19
      refine gather_nil ?_
      refine opg_none rfl ?_
      have hb23 : W18.heap[b12]? = some (.cells #[.int .i64 x_s_k.kind, .int .i64 x_s_k.val] 46 (0, 0)) := (blk_ext hb17 hW19)
      exact op_loadN (vs := [.int .i64 x_s_k.kind, .int .i64 x_s_k.val]) rfl agg46 sz46 rfl (cells_blk hb23) rfl ⟨told rfl rfl rfl, (Below.refl _ _)⟩
    · intro W18 hW19
      rintro _ rfl
      refine gather_nil ?_
      refine opg_none rfl ?_
      refine op_call ent25 rfl (Valid_spec) rfl ?_
      rintro _ W24 ⟨rfl, hE25⟩
      exact ⟨told rfl rfl rfl, hE25⟩
    · intro W18 hW19
      rintro _ rfl
      refine gather_nil ?_
      refine opg_none rfl ?_
      exact op_not rfl rfl ⟨told rfl rfl rfl, (Below.refl _ _)⟩
    · intro W18 hW19
      rintro _ rfl
      refine gather_nil ?_
      refine opg_none rfl ?_
      exact op_move rfl rfl ⟨told rfl rfl rfl, (Below.refl _ _)⟩
    · intro W18 hW19
      rintro _ rfl
      refine gather_nil ?_
      refine opg_f1 rfl rfl (fun hg26 => ?_) (fun h => by rw [h, cond_false])
      exact op_move rfl rfl ⟨told rfl rfl (by rw [hg26, cond_true]), (Below.refl _ _)⟩
    · intro W18 hW19
      rintro _ rfl
      intro v27 (hv28 : v27 = bif (!(!(validB ⟨x_s_k.kind, x_s_k.val⟩))) then (.int .i64 (k : Int)) else undef)
      refine gather_nil ?_
      refine opg_f1 rfl rfl (fun hg29 => ?_) (fun h => by rw [h, cond_false])
      obtain rfl : v27 = .int .i64 (k : Int) := by rw [hv28, hg29, cond_true]
      exact op_gtr rfl rfl rfl ⟨told rfl rfl (by rw [hg29, cond_true]), (Below.refl _ _)⟩
    · intro W18 hW19
      rintro _ rfl
      intro v30 (hv31 : v30 = bif (!(!(validB ⟨x_s_k.kind, x_s_k.val⟩))) then (.bool (decide (0 < (k : Int)))) else undef)
      refine gather_nil ?_
      refine opg_f1 rfl rfl (fun hg32 => ?_) (fun h => by rw [h, cond_false])
      obtain rfl : v30 = .bool (decide (0 < (k : Int))) := by rw [hv31, hg32, cond_true]
      exact op_move rfl rfl ⟨told rfl rfl (by rw [hg32, cond_true]), (Below.refl _ _)⟩
    · intro W18 hW19
      intro v33 (hv34 : v33 = bif (!(!(validB ⟨x_s_k.kind, x_s_k.val⟩))) then (.bool (decide (0 < (k : Int)))) else undef)
      refine gather_nil ?_
      refine opg_t rfl rfl hv34 (fun hg35 => ?_) (fun h => by rw [h, cond_false])
      obtain rfl : v33 = .bool (decide (0 < (k : Int))) := by rw [hv34, (and_l hg35), cond_true]
      exact op_fieldAddr rfl fa46_0 rfl ⟨told rfl rfl (by rw [hg35, cond_true]), (Below.refl _ _)⟩
    · intro W18 hW19
      intro v36 (hv37 : v36 = bif (!(!(validB ⟨x_s_k.kind, x_s_k.val⟩))) then (.bool (decide (0 < (k : Int)))) else undef)
      intro v38 (hv39 : v38 = bif ((!(!(validB ⟨x_s_k.kind, x_s_k.val⟩))) && (decide (0 < (k : Int)))) then (.pointer (some ⟨b12, 0 + 0, none⟩)) else undef)
      refine gather_nil ?_
      refine opg_t rfl rfl hv37 (fun hg40 => ?_) (fun h => by rw [h, cond_false])
      have hd41 := of_decide_eq_true (and_r hg40)
      obtain rfl : v36 = .bool (decide (0 < (k : Int))) := by rw [hv37, (and_l hg40), cond_true]
      obtain rfl : v38 = .pointer (some ⟨b12, 0 + 0, none⟩) := by rw [hv39, hg40, cond_true]
      have hb42 : W18.heap[b12]? = some (.cells #[.int .i64 x_s_k.kind, .int .i64 x_s_k.val] 46 (0, 0)) := (blk_ext hb17 hW19)
      exact op_load1 (v := .int .i64 x_s_k.kind) rfl agg3 (cell_blk hb42 rfl) rfl ⟨told rfl rfl (by rw [hg40, cond_true]), (Below.refl _ _)⟩
    · intro W18 hW19
      intro v43 (hv44 : v43 = bif (!(!(validB ⟨x_s_k.kind, x_s_k.val⟩))) then (.bool (decide (0 < (k : Int)))) else undef)
      refine gather_nil ?_
      refine opg_t rfl rfl hv44 (fun hg45 => ?_) (fun h => by rw [h, cond_false])
      obtain rfl : v43 = .bool (decide (0 < (k : Int))) := by rw [hv44, (and_l hg45), cond_true]
      exact op_move rfl rfl ⟨told rfl rfl (by rw [hg45, cond_true]), (Below.refl _ _)⟩
    · intro W18 hW19
      intro v46 (hv47 : v46 = bif (!(!(validB ⟨x_s_k.kind, x_s_k.val⟩))) then (.bool (decide (0 < (k : Int)))) else undef)
      refine gather_nil ?_
      refine opg_t rfl rfl hv47 (fun hg48 => ?_) (fun h => by rw [h, cond_false])
      obtain rfl : v46 = .bool (decide (0 < (k : Int))) := by rw [hv47, (and_l hg48), cond_true]
      exact op_move rfl rfl ⟨told rfl rfl (by rw [hg48, cond_true]), (Below.refl _ _)⟩
    · intro W18 hW19
      intro v49 (hv50 : v49 = bif (!(!(validB ⟨x_s_k.kind, x_s_k.val⟩))) then (.bool (decide (0 < (k : Int)))) else undef)
      intro v51 (hv52 : v51 = bif ((!(!(validB ⟨x_s_k.kind, x_s_k.val⟩))) && (decide (0 < (k : Int)))) then (.int .i64 (k : Int)) else undef)
      refine gather_nil ?_
      refine opg_t rfl rfl hv50 (fun hg53 => ?_) (fun h => by rw [h, cond_false])
      have hd54 := of_decide_eq_true (and_r hg53)
      obtain rfl : v49 = .bool (decide (0 < (k : Int))) := by rw [hv50, (and_l hg53), cond_true]
      obtain rfl : v51 = .int .i64 (k : Int) := by rw [hv52, hg53, cond_true]
      exact op_sub (r := (k : Int) - 1) rfl rfl (by omega) (by omega) rfl ⟨told rfl rfl (by rw [hg53, cond_true]), (Below.refl _ _)⟩
    · intro W18 hW19
      intro v55 (hv56 : v55 = bif (!(!(validB ⟨x_s_k.kind, x_s_k.val⟩))) then (.bool (decide (0 < (k : Int)))) else undef)
      intro v57 (hv58 : v57 = bif ((!(!(validB ⟨x_s_k.kind, x_s_k.val⟩))) && (decide (0 < (k : Int)))) then (.slice A n c) else undef)
      intro v59 (hv60 : v59 = bif ((!(!(validB ⟨x_s_k.kind, x_s_k.val⟩))) && (decide (0 < (k : Int)))) then (.int .i64 ((k : Int) - 1)) else undef)
      refine gather_nil ?_
      refine opg_t rfl rfl hv56 (fun hg61 => ?_) (fun h => by rw [h, cond_false])
      have hd62 := of_decide_eq_true (and_r hg61)
      obtain rfl : v55 = .bool (decide (0 < (k : Int))) := by rw [hv56, (and_l hg61), cond_true]
      obtain rfl : v57 = .slice A n c := by rw [hv58, hg61, cond_true]
      obtain rfl : v59 = .int .i64 ((k : Int) - 1) := by rw [hv60, hg61, cond_true]
      exact op_indexAddr (j := k - 1) rfl rfl und22 sz46 (hA3 (by omega)) (by omega) (by omega) rfl ⟨told rfl rfl (by rw [hg61, cond_true]), (Below.refl _ _)⟩
    · intro W18 hW19
      intro v63 (hv64 : v63 = bif (!(!(validB ⟨x_s_k.kind, x_s_k.val⟩))) then (.bool (decide (0 < (k : Int)))) else undef)
      intro v65 (hv66 : v65 = bif ((!(!(validB ⟨x_s_k.kind, x_s_k.val⟩))) && (decide (0 < (k : Int)))) then (.pointer (some ⟨bs1, os2 + (k - 1) * 2, none⟩)) else undef)
      refine gather_nil ?_
      refine opg_t rfl rfl hv64 (fun hg67 => ?_) (fun h => by rw [h, cond_false])
      obtain rfl : v63 = .bool (decide (0 < (k : Int))) := by rw [hv64, (and_l hg67), cond_true]
      obtain rfl : v65 = .pointer (some ⟨bs1, os2 + (k - 1) * 2, none⟩) := by rw [hv66, hg67, cond_true]
      exact op_fieldAddr rfl fa46_0 rfl ⟨told rfl rfl (by rw [hg67, cond_true]), (Below.refl _ _)⟩
    · intro W18 hW19
      intro v68 (hv69 : v68 = bif (!(!(validB ⟨x_s_k.kind, x_s_k.val⟩))) then (.bool (decide (0 < (k : Int)))) else undef)
      intro v70 (hv71 : v70 = bif ((!(!(validB ⟨x_s_k.kind, x_s_k.val⟩))) && (decide (0 < (k : Int)))) then (.pointer (some ⟨bs1, os2 + (k - 1) * 2 + 0, none⟩)) else undef)
      refine gather_nil ?_
      refine opg_t rfl rfl hv69 (fun hg72 => ?_) (fun h => by rw [h, cond_false])
      have hd73 := of_decide_eq_true (and_r hg72)
      obtain rfl : v68 = .bool (decide (0 < (k : Int))) := by rw [hv69, (and_l hg72), cond_true]
      obtain rfl : v70 = .pointer (some ⟨bs1, os2 + (k - 1) * 2 + 0, none⟩) := by rw [hv71, hg72, cond_true]
      have hB74 : Below w.heap.size w W18 := (below_step (hP16.below (below_new hB10 hN13) (le_new hB10 hN13)) hW19)
      exact op_load1 (v := .int .i64 x_s_k_1.kind) rfl agg3 (((hc4 (k - 1) x_s_k_1 (hx_s_k_1 (by have := hs.len; omega))).ext hB74).at (i := 0) rfl) rfl ⟨told rfl rfl (by rw [hg72, cond_true]), (Below.refl _ _)⟩
    · intro W18 hW19
      intro v75 (hv76 : v75 = bif (!(!(validB ⟨x_s_k.kind, x_s_k.val⟩))) then (.bool (decide (0 < (k : Int)))) else undef)
      intro v77 (hv78 : v77 = bif ((!(!(validB ⟨x_s_k.kind, x_s_k.val⟩))) && (decide (0 < (k : Int)))) then (.int .i64 x_s_k.kind) else undef)
      intro v79 (hv80 : v79 = bif ((!(!(validB ⟨x_s_k.kind, x_s_k.val⟩))) && (decide (0 < (k : Int)))) then (.int .i64 x_s_k_1.kind) else undef)
      refine gather_nil ?_
      refine opg_t rfl rfl hv76 (fun hg81 => ?_) (fun h => by rw [h, cond_false])
      have hd82 := of_decide_eq_true (and_r hg81)
      obtain rfl : v75 = .bool (decide (0 < (k : Int))) := by rw [hv76, (and_l hg81), cond_true]
      obtain rfl : v77 = .int .i64 x_s_k.kind := by rw [hv78, hg81, cond_true]
      obtain rfl : v79 = .int .i64 x_s_k_1.kind := by rw [hv80, hg81, cond_true]
      exact op_leq rfl rfl rfl ⟨told rfl rfl (by rw [hg81, cond_true]), (Below.refl _ _)⟩
    · intro W18 hW19
      rintro _ rfl
      intro v83 (hv84 : v83 = bif (!(!(validB ⟨x_s_k.kind, x_s_k.val⟩))) then (.bool (decide (0 < (k : Int)))) else undef)
      intro v85 (hv86 : v85 = bif ((!(!(validB ⟨x_s_k.kind, x_s_k.val⟩))) && (decide (0 < (k : Int)))) then (.bool (decide (x_s_k.kind ≤ x_s_k_1.kind))) else undef)
      refine gather_nil ?_
      refine opg_f1 rfl rfl (fun hg87 => ?_) (fun h => by rw [h, cond_false])
      obtain rfl : v83 = .bool (decide (0 < (k : Int))) := by rw [hv84, hg87, cond_true]
      exact op_and rfl rfl rfl (fun h => by rw [hv86, (and_i hg87 h), cond_true]) rfl ⟨told rfl rfl (by rw [hg87, cond_true]), (Below.refl _ _)⟩
    · intro W18 hW19
      rintro _ rfl
      intro v88 (hv89 : v88 = bif (!(!(validB ⟨x_s_k.kind, x_s_k.val⟩))) then (.bool ((decide (0 < (k : Int))) && (decide (x_s_k.kind ≤ x_s_k_1.kind)))) else undef)
      refine gather_nil ?_
      refine opg_none rfl ?_
      exact op_or rfl rfl rfl (fun h => by rw [hv89, (not_i h), cond_true]) rfl ⟨told rfl rfl rfl, (Below.refl _ _)⟩
    intro W90 hW91
    rintro _ rfl
    rintro _ rfl
    rintro _ rfl
    rintro _ rfl
    rintro _ rfl
    refine gather_nil ?_
    refine (then_norm ?_)
    refine wc_cond (b := (!(validB ⟨x_s_k.kind, x_s_k.val⟩)) || ((decide (0 < (k : Int))) && (decide (x_s_k.kind ≤ x_s_k_1.kind)))) rfl (fun hc92 => ?_) (fun hc92 => ?_)
    · have hok : okAt s k = false := by rw [okAt_eq hx_s_k hx_s_k_1, hc92]; rfl
      refine wc_seq ?_
      refine wc_region ?_
      refine wl_op rfl (op_assign rfl rfl ?_)
      refine (wl_done (then_norm ?_))
      refine wc_ret ?_
      refine (block_ret (then_ret (then_ret (block_ret (then_ret ?_)))))
      have hB93 : Below w.heap.size w W90 := (below_step (hP16.below (below_new hB10 hN13) (le_new hB10 hN13)) hW91)
      refine ⟨[_], ⟨rfl, trivial⟩, ⟨?_, hB93⟩⟩
      exact congrArg Value.bool (validSet_false (by omega) hok).symm
    · have hok : okAt s k = true := by rw [okAt_eq hx_s_k hx_s_k_1, hc92]; rfl
      refine wc_skip ?_
      refine (block_norm (then_norm ?_))
      refine wc_region ?_
      refine wl_op rfl (op_add (r := (k : Int) + 1) rfl rfl (by omega) (by omega) rfl ?_)
      refine wl_op rfl (op_move rfl rfl ?_)
      refine (wl_done (then_norm ?_))
      have hB94 : Below w.heap.size w W90 := (below_step (hP16.below (below_new hB10 hN13) (le_new hB10 hN13)) hW91)
      refine ⟨((k + 1), W90), ⟨(by omega), (all_succ hall hok), hB94⟩, ?_, ⟨rfl, rfl, rfl, rfl, rfl, trivial⟩, rfl⟩
      · dsimp only; omega
  · have hc9r := hc9
    have hc9 := of_decide_eq_false hc9
    refine wc_exit ?_
    refine (then_exit (then_exit (block_here (then_norm ?_))))
    refine wc_seq ?_
    refine wc_region ?_
    refine wl_op rfl (op_assign rfl rfl ?_)
    refine (wl_done (then_norm ?_))
    refine wc_ret ?_
    have hB95 : Below w.heap.size w W7 := (below_step (Below.refl _ _) hE8)
    refine ⟨[_], ⟨rfl, trivial⟩, ⟨?_, hB95⟩⟩
    exact congrArg Value.bool (validSet_iff.2 fun i hi => hall i (by omega)).symm

end Go.Eng
