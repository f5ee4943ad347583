/- Lemmas for a law of the seat: what functions of the program do, each stated as a contract of its own (module S18d). -/
import Derived.Test.YtbjafckcpkhoaaaS18c
import Derived.Test.YtbjafckcpkhoaaaChecked
set_option linter.unusedVariables false
set_option maxRecDepth 100000
namespace Go.Eng
open Go.RowKit Go.Shelf Go.Proofs Pol

theorem ent70 : Enters Try.prog 70 := enters_of Try.func70 (by kernel_rfl) rfl
theorem ent80 : Enters Try.prog 80 := enters_of Try.func80 (by kernel_rfl) rfl
theorem ent71 : Enters Try.prog 71 := enters_of Try.func71 (by kernel_rfl) rfl
theorem ent72 : Enters Try.prog 72 := enters_of Try.func72 (by kernel_rfl) rfl

theorem both1_spec {w : World} {p q x y : Int} {b1 b2 : Nat} (hb1 : w.heap[b1]? = some (.cells #[.int .i64 x] 3 (0, 0))) (hb2 : w.heap[b2]? = some (.cells #[.int .i64 y] 3 (0, 0))) : Ret Try.prog 80 #[.int .i64 p, .int .i64 q, .pointer (some ⟨b1, 0, none⟩), .pointer (some ⟨b2, 0, none⟩)] w (fun v w' => v = .bool ((decide (p = x)) && (decide (q = y))) ∧ Below w.heap.size w w') := by
  refine ret_of (args := [.int .i64 p, .int .i64 q, .pointer (some ⟨b1, 0, none⟩), .pointer (some ⟨b2, 0, none⟩)]) Try.func80 rfl Try.ntmps80 rfl (rs := [.tmp 6]) rfl ?_
  refine wc_seq ?_
  refine wc_region ?_
  refine wl_op rfl (op_assign rfl rfl ?_)
  refine (wl_done (then_norm ?_))
  refine wc_seq ?_
  refine wc_text [(0, .int .i64 p), (1, .int .i64 q), (2, .pointer (some ⟨b1, 0, none⟩)), (3, .pointer (some ⟨b2, 0, none⟩))] ⟨rfl, rfl, rfl, rfl, trivial⟩ [fun v _ => v = .int .i64 p, fun v _ => v = .int .i64 x, fun v _ => v = .bool (decide (p = x)), fun v _ => v = .bool (decide (p = x)), fun v _ => v = (bif (decide (p = x)) then (.int .i64 q) else undef), fun v _ => v = (bif (decide (p = x)) then (.int .i64 y) else undef), fun v _ => v = (bif (decide (p = x)) then (.bool (decide (q = y))) else undef), fun v _ => v = .bool ((decide (p = x)) && (decide (q = y))), fun v _ => v = .bool ((decide (p = x)) && (decide (q = y)))] [[], [], [0, 1], [2], [3], [3], [3, 4, 5], [3, 6], [7]] [8] rfl rfl rfl ⟨fun _ _ _ _ h => h, fun _ _ _ _ h => h, fun _ _ _ _ h => h, fun _ _ _ _ h => h, fun _ _ _ _ h => h, fun _ _ _ _ h => h, fun _ _ _ _ h => h, fun _ _ _ _ h => h, fun _ _ _ _ h => h, trivial⟩ ⟨?_, ?_, ?_, ?_, ?_, ?_, ?_, ?_, ?_, trivial⟩ ?_
  · intro W1 hW2
    refine gather_nil ?_
    refine opg_none rfl ?_
    exact op_move rfl rfl ⟨told rfl rfl rfl, (Below.refl _ _)⟩
  · intro W1 hW2
    refine gather_nil ?_
    refine opg_none rfl ?_
    have hb5 : W1.heap[b1]? = some (.cells #[.int .i64 x] 3 (0, 0)) := (blk_ext hb1 hW2)
    exact op_load1 (v := .int .i64 x) rfl agg3 (cell_blk hb5 rfl) rfl ⟨told rfl rfl rfl, (Below.refl _ _)⟩
  · intro W1 hW2
    rintro _ rfl
    rintro _ rfl
    refine gather_nil ?_
    refine opg_none rfl ?_
    exact op_eql rfl rfl rfl ⟨told rfl rfl rfl, (Below.refl _ _)⟩
  · intro W1 hW2
    rintro _ rfl
    refine gather_nil ?_
    refine opg_none rfl ?_
    exact op_move rfl rfl ⟨told rfl rfl rfl, (Below.refl _ _)⟩
  · intro W1 hW2
    rintro _ rfl
    refine gather_nil ?_
    refine opg_t1 rfl rfl (fun hg6 => ?_) (fun h => by rw [h, cond_false])
    exact op_move rfl rfl ⟨told rfl rfl (by rw [hg6, cond_true]), (Below.refl _ _)⟩
  · intro W1 hW2
    rintro _ rfl
    refine gather_nil ?_
    refine opg_t1 rfl rfl (fun hg7 => ?_) (fun h => by rw [h, cond_false])
    have hd8 := of_decide_eq_true hg7
    have hb9 : W1.heap[b2]? = some (.cells #[.int .i64 y] 3 (0, 0)) := (blk_ext hb2 hW2)
    exact op_load1 (v := .int .i64 y) rfl agg3 (cell_blk hb9 rfl) rfl ⟨told rfl rfl (by rw [hg7, cond_true]), (Below.refl _ _)⟩
  · intro W1 hW2
    rintro _ rfl
    intro v10 (hv11 : v10 = bif (decide (p = x)) then (.int .i64 q) else undef)
    intro v12 (hv13 : v12 = bif (decide (p = x)) then (.int .i64 y) else undef)
    refine gather_nil ?_
    refine opg_t1 rfl rfl (fun hg14 => ?_) (fun h => by rw [h, cond_false])
    have hd15 := of_decide_eq_true hg14
    obtain rfl : v10 = .int .i64 q := by rw [hv11, hg14, cond_true]
    obtain rfl : v12 = .int .i64 y := by rw [hv13, hg14, cond_true]
    exact op_eql rfl rfl rfl ⟨told rfl rfl (by rw [hg14, cond_true]), (Below.refl _ _)⟩
  · intro W1 hW2
    rintro _ rfl
    intro v16 (hv17 : v16 = bif (decide (p = x)) then (.bool (decide (q = y))) else undef)
    refine gather_nil ?_
    refine opg_none rfl ?_
    exact op_and rfl rfl rfl (fun h => by rw [hv17, h, cond_true]) rfl ⟨told rfl rfl rfl, (Below.refl _ _)⟩
  · intro W1 hW2
    rintro _ rfl
    refine gather_nil ?_
    refine opg_none rfl ?_
    exact op_assign rfl rfl ⟨told rfl rfl rfl, (Below.refl _ _)⟩
  intro W18 hW19
  rintro _ rfl
  refine gather_nil ?_
  refine (then_norm ?_)
  refine wc_ret ?_
  have hB20 : Below w.heap.size w W18 := (below_step (Below.refl _ _) hW19)
  refine ⟨[_], ⟨rfl, trivial⟩, ⟨?_, hB20⟩⟩
  exact rfl

theorem both_spec {w : World} {x y : Int} : Ret Try.prog 70 #[.int .i64 x, .int .i64 y] w (fun v w' => ∃ (b1 b2 : Nat), v = .func (.func 80) #[] #[.pointer (some ⟨b1, 0, none⟩), .pointer (some ⟨b2, 0, none⟩)] ∧ w'.heap[b1]? = some (.cells #[.int .i64 x] 3 (0, 0)) ∧ w'.heap[b2]? = some (.cells #[.int .i64 y] 3 (0, 0)) ∧ Below w.heap.size w w') := by
  refine ret_of (args := [.int .i64 x, .int .i64 y]) Try.func70 rfl Try.ntmps70 rfl (rs := [.tmp 4]) rfl ?_
  refine wc_seq ?_
  refine wc_region ?_
  refine wl_op rfl (op_box rfl rfl ?_)
  intro W1 b2 hN3
  have hb4 : W1.heap[b2]? = some (.cells #[.int .i64 x] 3 (0, 0)) := hN3.blk
  refine wl_op rfl (op_box rfl rfl ?_)
  intro W5 b6 hN7
  have hb8 : W5.heap[b6]? = some (.cells #[.int .i64 y] 3 (0, 0)) := hN7.blk
  refine wl_op rfl (op_assign rfl rfl ?_)
  refine (wl_done (then_norm ?_))
  refine wc_seq ?_
  refine wc_region ?_
  refine wl_op rfl (op_makeFunc rfl rfl rfl ?_)
  refine wl_op rfl (op_assign rfl rfl ?_)
  refine (wl_done (then_norm ?_))
  refine wc_ret ?_
  have hB9 : Below w.heap.size w W5 := (below_new (below_new (Below.refl _ _) hN3) hN7)
  have hb10 : W5.heap[b2]? = some (.cells #[.int .i64 x] 3 (0, 0)) := (blk_ext hb4 hN7.ext)
  refine ⟨[_], ⟨rfl, trivial⟩, ⟨b2, b6, ?_, hb10, hb8, hB9⟩⟩
  exact rfl

theorem clashes1_spec {w : World} {p q : Int} : Ret Try.prog 71 #[.int .i64 p, .int .i64 q] w (fun v w' => v = .bool ((decide (p = 3)) && (decide (1 < q))) ∧ Below w.heap.size w w') := by
  refine ret_of (args := [.int .i64 p, .int .i64 q]) Try.func71 rfl Try.ntmps71 rfl (rs := [.tmp 4]) rfl ?_
  refine wc_seq ?_
  refine wc_region ?_
  refine wl_op rfl (op_assign rfl rfl ?_)
  refine (wl_done (then_norm ?_))
  refine wc_seq ?_
  refine wc_text [(0, .int .i64 p), (1, .int .i64 q)] ⟨rfl, rfl, trivial⟩ [fun v _ => v = .int .i64 p, fun v _ => v = .bool (decide (p = 3)), fun v _ => v = .bool (decide (p = 3)), fun v _ => v = (bif (decide (p = 3)) then (.int .i64 q) else undef), fun v _ => v = (bif (decide (p = 3)) then (.bool (decide (1 < q))) else undef), fun v _ => v = .bool ((decide (p = 3)) && (decide (1 < q))), fun v _ => v = .bool ((decide (p = 3)) && (decide (1 < q)))] [[], [0], [1], [2], [2, 3], [2, 4], [5]] [6] rfl rfl rfl ⟨fun _ _ _ _ h => h, fun _ _ _ _ h => h, fun _ _ _ _ h => h, fun _ _ _ _ h => h, fun _ _ _ _ h => h, fun _ _ _ _ h => h, fun _ _ _ _ h => h, trivial⟩ ⟨?_, ?_, ?_, ?_, ?_, ?_, ?_, trivial⟩ ?_
  · intro W1 hW2
    refine gather_nil ?_
    refine opg_none rfl ?_
    exact op_move rfl rfl ⟨told rfl rfl rfl, (Below.refl _ _)⟩
  · intro W1 hW2
    rintro _ rfl
    refine gather_nil ?_
    refine opg_none rfl ?_
    exact op_eql rfl rfl rfl ⟨told rfl rfl rfl, (Below.refl _ _)⟩
  · intro W1 hW2
    rintro _ rfl
    refine gather_nil ?_
    refine opg_none rfl ?_
    exact op_move rfl rfl ⟨told rfl rfl rfl, (Below.refl _ _)⟩
  · intro W1 hW2
    rintro _ rfl
    refine gather_nil ?_
    refine opg_t1 rfl rfl (fun hg3 => ?_) (fun h => by rw [h, cond_false])
    exact op_move rfl rfl ⟨told rfl rfl (by rw [hg3, cond_true]), (Below.refl _ _)⟩
  · intro W1 hW2
    rintro _ rfl
    intro v4 (hv5 : v4 = bif (decide (p = 3)) then (.int .i64 q) else undef)
    refine gather_nil ?_
    refine opg_t1 rfl rfl (fun hg6 => ?_) (fun h => by rw [h, cond_false])
    have hd7 := of_decide_eq_true hg6
    obtain rfl : v4 = .int .i64 q := by rw [hv5, hg6, cond_true]
    exact op_gtr rfl rfl rfl ⟨told rfl rfl (by rw [hg6, cond_true]), (Below.refl _ _)⟩
  · intro W1 hW2
    rintro _ rfl
    intro v8 (hv9 : v8 = bif (decide (p = 3)) then (.bool (decide (1 < q))) else undef)
    refine gather_nil ?_
    refine opg_none rfl ?_
    exact op_and rfl rfl rfl (fun h => by rw [hv9, h, cond_true]) rfl ⟨told rfl rfl rfl, (Below.refl _ _)⟩
  · intro W1 hW2
    rintro _ rfl
    refine gather_nil ?_
    refine opg_none rfl ?_
    exact op_assign rfl rfl ⟨told rfl rfl rfl, (Below.refl _ _)⟩
  intro W10 hW11
  rintro _ rfl
  refine gather_nil ?_
  refine (then_norm ?_)
  refine wc_ret ?_
  have hB12 : Below w.heap.size w W10 := (below_step (Below.refl _ _) hW11)
  refine ⟨[_], ⟨rfl, trivial⟩, ⟨?_, hB12⟩⟩
  exact rfl

theorem clashes2_spec {w : World} {p q : Int} : Ret Try.prog 72 #[.int .i64 p, .int .i64 q] w (fun v w' => v = .bool ((decide (p < 3)) && (decide (q = 3))) ∧ Below w.heap.size w w') := by
  refine ret_of (args := [.int .i64 p, .int .i64 q]) Try.func72 rfl Try.ntmps72 rfl (rs := [.tmp 4]) rfl ?_
  refine wc_seq ?_
  refine wc_region ?_
  refine wl_op rfl (op_assign rfl rfl ?_)
  refine (wl_done (then_norm ?_))
  refine wc_seq ?_
  refine wc_text [(0, .int .i64 p), (1, .int .i64 q)] ⟨rfl, rfl, trivial⟩ [fun v _ => v = .int .i64 p, fun v _ => v = .bool (decide (p < 3)), fun v _ => v = .bool (decide (p < 3)), fun v _ => v = (bif (decide (p < 3)) then (.int .i64 q) else undef), fun v _ => v = (bif (decide (p < 3)) then (.bool (decide (q = 3))) else undef), fun v _ => v = .bool ((decide (p < 3)) && (decide (q = 3))), fun v _ => v = .bool ((decide (p < 3)) && (decide (q = 3)))] [[], [0], [1], [2], [2, 3], [2, 4], [5]] [6] rfl rfl rfl ⟨fun _ _ _ _ h => h, fun _ _ _ _ h => h, fun _ _ _ _ h => h, fun _ _ _ _ h => h, fun _ _ _ _ h => h, fun _ _ _ _ h => h, fun _ _ _ _ h => h, trivial⟩ ⟨?_, ?_, ?_, ?_, ?_, ?_, ?_, trivial⟩ ?_
  · intro W1 hW2
    refine gather_nil ?_
    refine opg_none rfl ?_
    exact op_move rfl rfl ⟨told rfl rfl rfl, (Below.refl _ _)⟩
  · intro W1 hW2
    rintro _ rfl
    refine gather_nil ?_
    refine opg_none rfl ?_
    exact op_lss rfl rfl rfl ⟨told rfl rfl rfl, (Below.refl _ _)⟩
  · intro W1 hW2
    rintro _ rfl
    refine gather_nil ?_
    refine opg_none rfl ?_
    exact op_move rfl rfl ⟨told rfl rfl rfl, (Below.refl _ _)⟩
  · intro W1 hW2
    rintro _ rfl
    refine gather_nil ?_
    refine opg_t1 rfl rfl (fun hg3 => ?_) (fun h => by rw [h, cond_false])
    exact op_move rfl rfl ⟨told rfl rfl (by rw [hg3, cond_true]), (Below.refl _ _)⟩
  · intro W1 hW2
    rintro _ rfl
    intro v4 (hv5 : v4 = bif (decide (p < 3)) then (.int .i64 q) else undef)
    refine gather_nil ?_
    refine opg_t1 rfl rfl (fun hg6 => ?_) (fun h => by rw [h, cond_false])
    have hd7 := of_decide_eq_true hg6
    obtain rfl : v4 = .int .i64 q := by rw [hv5, hg6, cond_true]
    exact op_eql rfl rfl rfl ⟨told rfl rfl (by rw [hg6, cond_true]), (Below.refl _ _)⟩
  · intro W1 hW2
    rintro _ rfl
    intro v8 (hv9 : v8 = bif (decide (p < 3)) then (.bool (decide (q = 3))) else undef)
    refine gather_nil ?_
    refine opg_none rfl ?_
    exact op_and rfl rfl rfl (fun h => by rw [hv9, h, cond_true]) rfl ⟨told rfl rfl rfl, (Below.refl _ _)⟩
  · intro W1 hW2
    rintro _ rfl
    refine gather_nil ?_
    refine opg_none rfl ?_
    exact op_assign rfl rfl ⟨told rfl rfl rfl, (Below.refl _ _)⟩
  intro W10 hW11
  rintro _ rfl
  refine gather_nil ?_
  refine (then_norm ?_)
  refine wc_ret ?_
  have hB12 : Below w.heap.size w W10 := (below_step (Below.refl _ _) hW11)
  refine ⟨[_], ⟨rfl, trivial⟩, ⟨?_, hB12⟩⟩
  exact rfl

structure ClashRow where
  a : Int
  b : Int
  bad : Int → Int → Bool
def bothB (x y : Int) : Int → Int → Bool := fun p q => (decide (p = x)) && (decide (q = y))
def clashRows : List ClashRow := [⟨3, 6, bothB 1 2⟩, ⟨4, 7, bothB 2 2⟩, ⟨5, 6, bothB 2 1⟩, ⟨5, 7, bothB 2 2⟩, ⟨8, 11, fun p q => (decide (p = 3)) && (decide (1 < q))⟩, ⟨9, 11, fun p q => (decide (p < 3)) && (decide (q = 3))⟩, ⟨10, 13, bothB 0 4⟩]
def IsBad (w : World) (g : Nat) (caps : Array Value) (bad : Int → Int → Bool) : Prop :=
  Enters Try.prog g ∧ ∀ W, Below w.heap.size w W → ∀ p q : Int, Ret Try.prog g (#[.int .i64 p, .int .i64 q] ++ caps) W (fun v W' => v = .bool (bad p q) ∧ Below W.heap.size W W')
def RClash (w : World) (cs : List Value) (x : ClashRow) : Prop := ∃ g caps, cs = [.int .i64 x.a, .int .i64 x.b, .func (.func g) #[] caps] ∧ IsBad w g caps x.bad
theorem rclash_lifts : Lifts RClash := fun w w' cs x hb ⟨g, caps, h1, h2, h3⟩ => ⟨g, caps, h1, h2, fun W hW p q => h3 W (below_step hb hW) p q⟩
theorem bad_both {w : World} {x y : Int} {b1 b2 : Nat} (h1 : w.heap[b1]? = some (.cells #[.int .i64 x] 3 (0, 0))) (h2 : w.heap[b2]? = some (.cells #[.int .i64 y] 3 (0, 0))) (he : Enters Try.prog 80) :
    IsBad w 80 #[.pointer (some ⟨b1, 0, none⟩), .pointer (some ⟨b2, 0, none⟩)] (bothB x y) :=
  ⟨he, fun W hW p q => both1_spec (blk_ext h1 hW) (blk_ext h2 hW)⟩
abbrev RdC (w : World) (A : Option Addr) (n : Nat) (xs : List ClashRow) : Prop := Rd RClash 3 w A n xs

theorem clashes_spec {w : World} : Ret Try.prog 39 #[] w (fun v w' => ∃ (A1 : Option Addr) (n1 c1 : Nat), v = .slice A1 n1 c1 ∧ RdC w' A1 n1 clashRows ∧ Below w.heap.size w w') := by
  refine ret_of (args := []) Try.func39 rfl Try.ntmps39 rfl (rs := [.tmp 0]) rfl ?_
  refine wc_seq ?_
  refine wc_region ?_
  refine wl_op rfl (op_assign rfl rfl ?_)
  refine (wl_done (then_norm ?_))
  refine wc_seq ?_
  refine wc_region ?_
  refine wl_op rfl (op_call ent70 rfl (both_spec) rfl ?_)
  rintro _ W5 ⟨b11, b22, rfl, hp3, hp4, hE6⟩
  refine wl_op rfl (op_build (v := .agg #[.int .i64 3, .int .i64 6, .func (.func 80) #[] #[.pointer (some ⟨b11, 0, none⟩), .pointer (some ⟨b22, 0, none⟩)]]) rfl (fun w => by kernel_rfl) rfl ?_)
  refine wl_op rfl (op_call ent70 rfl (both_spec) rfl ?_)
  rintro _ W11 ⟨b17, b28, rfl, hp9, hp10, hE12⟩
  refine wl_op rfl (op_build (v := .agg #[.int .i64 4, .int .i64 7, .func (.func 80) #[] #[.pointer (some ⟨b17, 0, none⟩), .pointer (some ⟨b28, 0, none⟩)]]) rfl (fun w => by kernel_rfl) rfl ?_)
  refine wl_op rfl (op_call ent70 rfl (both_spec) rfl ?_)
  rintro _ W17 ⟨b113, b214, rfl, hp15, hp16, hE18⟩
  refine wl_op rfl (op_build (v := .agg #[.int .i64 5, .int .i64 6, .func (.func 80) #[] #[.pointer (some ⟨b113, 0, none⟩), .pointer (some ⟨b214, 0, none⟩)]]) rfl (fun w => by kernel_rfl) rfl ?_)
  refine wl_op rfl (op_call ent70 rfl (both_spec) rfl ?_)
  rintro _ W23 ⟨b119, b220, rfl, hp21, hp22, hE24⟩
  refine wl_op rfl (op_build (v := .agg #[.int .i64 5, .int .i64 7, .func (.func 80) #[] #[.pointer (some ⟨b119, 0, none⟩), .pointer (some ⟨b220, 0, none⟩)]]) rfl (fun w => by kernel_rfl) rfl ?_)
  refine wl_op rfl (op_build (v := .agg #[.int .i64 8, .int .i64 11, .func (.func 71) #[] #[]]) rfl (fun w => by kernel_rfl) rfl ?_)
  refine wl_op rfl (op_build (v := .agg #[.int .i64 9, .int .i64 11, .func (.func 72) #[] #[]]) rfl (fun w => by kernel_rfl) rfl ?_)
  refine wl_op rfl (op_call ent70 rfl (both_spec) rfl ?_)
  rintro _ W29 ⟨b125, b226, rfl, hp27, hp28, hE30⟩
  refine wl_op rfl (op_build (v := .agg #[.int .i64 10, .int .i64 13, .func (.func 80) #[] #[.pointer (some ⟨b125, 0, none⟩), .pointer (some ⟨b226, 0, none⟩)]]) rfl (fun w => by kernel_rfl) rfl ?_)
  refine wl_op rfl (op_buildSlice (cs := #[.int .i64 3, .int .i64 6, .func (.func 80) #[] #[.pointer (some ⟨b11, 0, none⟩), .pointer (some ⟨b22, 0, none⟩)], .int .i64 4, .int .i64 7, .func (.func 80) #[] #[.pointer (some ⟨b17, 0, none⟩), .pointer (some ⟨b28, 0, none⟩)], .int .i64 5, .int .i64 6, .func (.func 80) #[] #[.pointer (some ⟨b113, 0, none⟩), .pointer (some ⟨b214, 0, none⟩)], .int .i64 5, .int .i64 7, .func (.func 80) #[] #[.pointer (some ⟨b119, 0, none⟩), .pointer (some ⟨b220, 0, none⟩)], .int .i64 8, .int .i64 11, .func (.func 71) #[] #[], .int .i64 9, .int .i64 11, .func (.func 72) #[] #[], .int .i64 10, .int .i64 13, .func (.func 80) #[] #[.pointer (some ⟨b125, 0, none⟩), .pointer (some ⟨b226, 0, none⟩)]]) (e := 57) rfl (fun w => by kernel_rfl) rfl ?_)
  intro W31 b32 hN33
  have hb34 : W31.heap[b32]? = some (.cells #[.int .i64 3, .int .i64 6, .func (.func 80) #[] #[.pointer (some ⟨b11, 0, none⟩), .pointer (some ⟨b22, 0, none⟩)], .int .i64 4, .int .i64 7, .func (.func 80) #[] #[.pointer (some ⟨b17, 0, none⟩), .pointer (some ⟨b28, 0, none⟩)], .int .i64 5, .int .i64 6, .func (.func 80) #[] #[.pointer (some ⟨b113, 0, none⟩), .pointer (some ⟨b214, 0, none⟩)], .int .i64 5, .int .i64 7, .func (.func 80) #[] #[.pointer (some ⟨b119, 0, none⟩), .pointer (some ⟨b220, 0, none⟩)], .int .i64 8, .int .i64 11, .func (.func 71) #[] #[], .int .i64 9, .int .i64 11, .func (.func 72) #[] #[], .int .i64 10, .int .i64 13, .func (.func 80) #[] #[.pointer (some ⟨b125, 0, none⟩), .pointer (some ⟨b226, 0, none⟩)]] 57 (0, 0)) := hN33.blk
  refine wl_op rfl (op_assign rfl rfl ?_)
  refine (wl_done (then_norm ?_))
  refine WC.sub [(0, .slice (some ⟨b32, 0, none⟩) 7 7)] ⟨rfl, trivial⟩ ?_
  refine wc_ret ?_
  have hB35 : Below w.heap.size w W31 := (below_new (below_step (below_step (below_step (below_step (below_step (Below.refl _ _) hE6) hE12) hE18) hE24) hE30) hN33)
  have hb36 : W31.heap[b11]? = some (.cells #[.int .i64 1] 3 (0, 0)) := (blk_ext (blk_ext (blk_ext (blk_ext (blk_ext hp3 hE12) hE18) hE24) hE30) hN33.ext)
  have hb37 : W31.heap[b22]? = some (.cells #[.int .i64 2] 3 (0, 0)) := (blk_ext (blk_ext (blk_ext (blk_ext (blk_ext hp4 hE12) hE18) hE24) hE30) hN33.ext)
  have hb38 : W31.heap[b17]? = some (.cells #[.int .i64 2] 3 (0, 0)) := (blk_ext (blk_ext (blk_ext (blk_ext hp9 hE18) hE24) hE30) hN33.ext)
  have hb39 : W31.heap[b28]? = some (.cells #[.int .i64 2] 3 (0, 0)) := (blk_ext (blk_ext (blk_ext (blk_ext hp10 hE18) hE24) hE30) hN33.ext)
  have hb40 : W31.heap[b113]? = some (.cells #[.int .i64 2] 3 (0, 0)) := (blk_ext (blk_ext (blk_ext hp15 hE24) hE30) hN33.ext)
  have hb41 : W31.heap[b214]? = some (.cells #[.int .i64 1] 3 (0, 0)) := (blk_ext (blk_ext (blk_ext hp16 hE24) hE30) hN33.ext)
  have hb42 : W31.heap[b119]? = some (.cells #[.int .i64 2] 3 (0, 0)) := (blk_ext (blk_ext hp21 hE30) hN33.ext)
  have hb43 : W31.heap[b220]? = some (.cells #[.int .i64 2] 3 (0, 0)) := (blk_ext (blk_ext hp22 hE30) hN33.ext)
  have hb44 : W31.heap[b125]? = some (.cells #[.int .i64 0] 3 (0, 0)) := (blk_ext hp27 hN33.ext)
  have hb45 : W31.heap[b226]? = some (.cells #[.int .i64 4] 3 (0, 0)) := (blk_ext hp28 hN33.ext)
  have hrows : RowsAt RClash 3 W31 b32 0 clashRows := ⟨⟨[.int .i64 3, .int .i64 6, .func (.func 80) #[] #[.pointer (some ⟨b11, 0, none⟩), .pointer (some ⟨b22, 0, none⟩)]], rfl, ⟨80, #[.pointer (some ⟨b11, 0, none⟩), .pointer (some ⟨b22, 0, none⟩)], rfl, (bad_both hb36 hb37 ent80)⟩, cells_sub (cells_blk hb34) 0 _ rfl⟩, ⟨[.int .i64 4, .int .i64 7, .func (.func 80) #[] #[.pointer (some ⟨b17, 0, none⟩), .pointer (some ⟨b28, 0, none⟩)]], rfl, ⟨80, #[.pointer (some ⟨b17, 0, none⟩), .pointer (some ⟨b28, 0, none⟩)], rfl, (bad_both hb38 hb39 ent80)⟩, cells_sub (cells_blk hb34) 3 _ rfl⟩, ⟨[.int .i64 5, .int .i64 6, .func (.func 80) #[] #[.pointer (some ⟨b113, 0, none⟩), .pointer (some ⟨b214, 0, none⟩)]], rfl, ⟨80, #[.pointer (some ⟨b113, 0, none⟩), .pointer (some ⟨b214, 0, none⟩)], rfl, (bad_both hb40 hb41 ent80)⟩, cells_sub (cells_blk hb34) 6 _ rfl⟩, ⟨[.int .i64 5, .int .i64 7, .func (.func 80) #[] #[.pointer (some ⟨b119, 0, none⟩), .pointer (some ⟨b220, 0, none⟩)]], rfl, ⟨80, #[.pointer (some ⟨b119, 0, none⟩), .pointer (some ⟨b220, 0, none⟩)], rfl, (bad_both hb42 hb43 ent80)⟩, cells_sub (cells_blk hb34) 9 _ rfl⟩, ⟨[.int .i64 8, .int .i64 11, .func (.func 71) #[] #[]], rfl, ⟨71, #[], rfl, ⟨ent71, fun W hW p q => clashes1_spec⟩⟩, cells_sub (cells_blk hb34) 12 _ rfl⟩, ⟨[.int .i64 9, .int .i64 11, .func (.func 72) #[] #[]], rfl, ⟨72, #[], rfl, ⟨ent72, fun W hW p q => clashes2_spec⟩⟩, cells_sub (cells_blk hb34) 15 _ rfl⟩, ⟨[.int .i64 10, .int .i64 13, .func (.func 80) #[] #[.pointer (some ⟨b125, 0, none⟩), .pointer (some ⟨b226, 0, none⟩)]], rfl, ⟨80, #[.pointer (some ⟨b125, 0, none⟩), .pointer (some ⟨b226, 0, none⟩)], rfl, (bad_both hb44 hb45 ent80)⟩, cells_sub (cells_blk hb34) 18 _ rfl⟩, trivial⟩
  refine ⟨[_], ⟨rfl, trivial⟩, ⟨some ⟨b32, 0, none⟩, 7, 7, ?_, (rd_of_rows hrows rfl rfl), hB35⟩⟩
  exact rfl

end Go.Eng
