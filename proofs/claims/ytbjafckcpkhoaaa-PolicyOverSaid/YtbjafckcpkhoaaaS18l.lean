/- Lemmas for a law of the seat: what functions of the program do, each stated as a contract of its own (module S18l). -/
import Derived.Test.YtbjafckcpkhoaaaS18k
import Derived.Test.YtbjafckcpkhoaaaEngF
import Derived.Test.YtbjafckcpkhoaaaChecked
set_option linter.unusedVariables false
set_option maxRecDepth 100000
namespace Go.Eng
open Go.RowKit Go.Shelf Go.Proofs Pol

theorem ent10 : Enters Try.prog 10 := enters_of Try.func10 (by kernel_rfl) rfl
theorem agg29 : AggT Try.prog 29 true := fun w => by kernel_rfl
theorem eq29 {a0 b0 : Int} {a1 b1 : Int} : EqT Try.prog 29 [.int .i64 a0, .int .i64 a1] [.int .i64 b0, .int .i64 b1] := ⟨by kernel_rfl, fun w => run_eqArr (e := 3) (n := 2) (by kernel_rfl) (by kernel_rfl) (by kernel_rfl) (by kernel_rfl) (by kernel_rfl) (by kernel_rfl)⟩

def exQ : List (Int × Int) := [(5, 6)]
def exP : List Pol := [⟨10, 20⟩]
theorem clashL_ex : clashL [⟨5, 2⟩] = exQ := by decide
theorem chosenE_ex : chosenE [⟨5, 2⟩] = 0 := by decide
theorem agree_ex : agree [⟨10, 50⟩] [⟨10, 20⟩] = (exP, 0, 0) := by decide
theorem agree_ex1 : (agree [⟨10, 50⟩] [⟨10, 20⟩]).1 = exP := by rw [agree_ex]
theorem exQ_len : exQ.length = 1 := rfl
theorem exP_len : exP.length = 1 := rfl
theorem awake_ok {n1 n2 : Nat} {x : Int × Int} {y : Pol} (h1 : n1 = 1) (h2 : n2 = 1) (hx : 0 < exQ.length → exQ[0]? = some x) (hy : 0 < exP.length → exP[0]? = some y) :
    (decide (chosenE [⟨5, 2⟩] = 0) && decide ((n1 : Int) = 1) && (decide (x.1 = 5) && decide (x.2 = 6)) && decide ((agree [⟨10, 50⟩] [⟨10, 20⟩]).2.2 = 0) && decide ((n2 : Int) = 1) && (decide (y.kind = 10) && decide (y.val = 20))) = true := by
  have h3 := hx (by decide); have h4 := hy (by decide)
  cases h3; cases h4; subst h1; subst h2; rw [chosenE_ex, agree_ex]; rfl

theorem awake_spec {w : World} : Ret Try.prog 7 #[] w (fun v w' => v = .bool true ∧ Below w.heap.size w w') := by
  refine ret_of (args := []) Try.func7 rfl Try.ntmps7 rfl (rs := [.tmp 0]) rfl ?_
  refine wc_seq ?_
  refine wc_region ?_
  refine wl_op rfl (op_assign rfl rfl ?_)
  refine (wl_done (then_norm ?_))
  refine wc_seq ?_
  refine wc_region ?_
  refine wl_op rfl (op_build (v := .agg #[.int .i64 5, .int .i64 2]) rfl (fun w => by kernel_rfl) rfl ?_)
  refine wl_op rfl (op_buildSlice (cs := #[.int .i64 5, .int .i64 2]) (e := 46) rfl (fun w => by kernel_rfl) rfl ?_)
  intro W1 b2 hN3
  have hb4 : W1.heap[b2]? = some (.cells #[.int .i64 5, .int .i64 2] 46 (0, 0)) := hN3.blk
  refine wl_op rfl (op_call ent8 rfl (Clashes_spec (rd_of_blk (enc := encP) [(⟨5, 2⟩ : Pol)] hb4 (fun _ => rfl) rfl rfl rfl)) rfl ?_)
  rintro _ W9 ⟨A15, n16, c17, rfl, hp8, hE10⟩
  rw [clashL_ex] at hp8
  have hl1 := hp8.len.symm.trans exQ_len
  refine wl_op rfl (op_move rfl rfl ?_)
  refine wl_op rfl (op_extract (v := .slice A15 n16 c17) rfl rfl rfl ?_)
  refine wl_op rfl (op_extract (v := .int .i64 (chosenE [(⟨5, 2⟩ : Pol)])) rfl rfl rfl ?_)
  refine wl_op rfl (op_assign rfl rfl ?_)
  refine wl_op rfl (op_assign rfl rfl ?_)
  refine (wl_done (then_norm ?_))
  refine WC.sub [(0, .bool false), (1, .slice A15 n16 c17), (2, .int .i64 (chosenE [(⟨5, 2⟩ : Pol)]))] ⟨rfl, rfl, rfl, trivial⟩ ?_
  refine wc_seq ?_
  refine wc_region ?_
  refine wl_op rfl (op_build (v := .agg #[.int .i64 10, .int .i64 50]) rfl (fun w => by kernel_rfl) rfl ?_)
  refine wl_op rfl (op_buildSlice (cs := #[.int .i64 10, .int .i64 50]) (e := 46) rfl (fun w => by kernel_rfl) rfl ?_)
  intro W11 b12 hN13
  have hb14 : W11.heap[b12]? = some (.cells #[.int .i64 10, .int .i64 50] 46 (0, 0)) := hN13.blk
  refine wl_op rfl (op_build (v := .agg #[.int .i64 10, .int .i64 20]) rfl (fun w => by kernel_rfl) rfl ?_)
  refine wl_op rfl (op_buildSlice (cs := #[.int .i64 10, .int .i64 20]) (e := 46) rfl (fun w => by kernel_rfl) rfl ?_)
  intro W15 b16 hN17
  have hb18 : W15.heap[b16]? = some (.cells #[.int .i64 10, .int .i64 20] 46 (0, 0)) := hN17.blk
  have hb19 : W15.heap[b12]? = some (.cells #[.int .i64 10, .int .i64 50] 46 (0, 0)) := (blk_ext hb14 hN17.ext)
  refine wl_op rfl (op_call ent10 rfl (Agree_spec (rd_of_blk (enc := encP) [(⟨10, 50⟩ : Pol)] hb19 (fun _ => rfl) rfl rfl rfl) (rd_of_blk (enc := encP) [(⟨10, 20⟩ : Pol)] hb18 (fun _ => rfl) rfl rfl rfl) (by omega) (by omega)) rfl ?_)
  rintro _ W24 ⟨A120, n121, c122, rfl, hp23, hE25⟩
  rw [agree_ex1] at hp23
  have hl2 := hp23.len.symm.trans exP_len
  refine wl_op rfl (op_move rfl rfl ?_)
  refine wl_op rfl (op_extract (v := .slice A120 n121 c122) rfl rfl rfl ?_)
  refine wl_op rfl (op_extract (v := .int .i64 ((agree [(⟨10, 50⟩ : Pol)] [(⟨10, 20⟩ : Pol)]).2.1)) rfl rfl rfl ?_)
  refine wl_op rfl (op_extract (v := .int .i64 ((agree [(⟨10, 50⟩ : Pol)] [(⟨10, 20⟩ : Pol)]).2.2)) rfl rfl rfl ?_)
  refine wl_op rfl (op_assign rfl rfl ?_)
  refine wl_op rfl (op_assign rfl rfl ?_)
  refine wl_op rfl (op_assign rfl rfl ?_)
  refine (wl_done (then_norm ?_))
  refine WC.sub [(0, .bool false), (1, .slice A15 n16 c17), (2, .int .i64 (chosenE [(⟨5, 2⟩ : Pol)])), (3, .slice A120 n121 c122), (5, .int .i64 ((agree [(⟨10, 50⟩ : Pol)] [(⟨10, 20⟩ : Pol)]).2.2))] ⟨rfl, rfl, rfl, rfl, rfl, trivial⟩ ?_
  refine wc_seq ?_
  obtain ⟨bs28, os29, hA30, hc31⟩ := hp8.flat
  have hln32 := hp8.len
  have hbd33 := hp8.bd
  obtain ⟨x_exQ_0, hx_exQ_0⟩ : ∃ x, (0 < exQ.length → exQ[0]? = some x) := by
    by_cases h : 0 < exQ.length
    · exact ⟨_, fun _ => List.getElem?_eq_getElem h⟩
    · exact ⟨((0, 0) : Int × Int), fun h1 => absurd h1 h⟩
  obtain ⟨bs35, os36, hA37, hc38⟩ := hp23.flat
  have hln39 := hp23.len
  have hbd40 := hp23.bd
  obtain ⟨x_exP_0, hx_exP_0⟩ : ∃ x, (0 < exP.length → exP[0]? = some x) := by
    by_cases h : 0 < exP.length
    · exact ⟨_, fun _ => List.getElem?_eq_getElem h⟩
    · exact ⟨(⟨0, 0⟩ : Pol), fun h1 => absurd h1 h⟩
  refine wc_text [(1, .slice A15 n16 c17), (2, .int .i64 (chosenE [(⟨5, 2⟩ : Pol)])), (3, .slice A120 n121 c122), (5, .int .i64 ((agree [(⟨10, 50⟩ : Pol)] [(⟨10, 20⟩ : Pol)]).2.2))] ⟨rfl, rfl, rfl, rfl, trivial⟩ [fun v _ => v = .int .i64 (chosenE [(⟨5, 2⟩ : Pol)]), fun v _ => v = .bool (decide (chosenE [(⟨5, 2⟩ : Pol)] = 0)), fun v _ => v = .bool (decide (chosenE [(⟨5, 2⟩ : Pol)] = 0)), fun v _ => v = (bif (decide (chosenE [(⟨5, 2⟩ : Pol)] = 0)) then (.slice A15 n16 c17) else undef), fun v _ => v = (bif (decide (chosenE [(⟨5, 2⟩ : Pol)] = 0)) then (.int .i64 ((n16 : Nat) : Int)) else undef), fun v _ => v = (bif (decide (chosenE [(⟨5, 2⟩ : Pol)] = 0)) then (.bool (decide (((n16 : Nat) : Int) = 1))) else undef), fun v _ => v = .bool ((decide (chosenE [(⟨5, 2⟩ : Pol)] = 0)) && (decide (((n16 : Nat) : Int) = 1))), fun v _ => v = .bool ((decide (chosenE [(⟨5, 2⟩ : Pol)] = 0)) && (decide (((n16 : Nat) : Int) = 1))), fun v _ => v = (bif ((decide (chosenE [(⟨5, 2⟩ : Pol)] = 0)) && (decide (((n16 : Nat) : Int) = 1))) then (.slice A15 n16 c17) else undef), fun v _ => v = (bif ((decide (chosenE [(⟨5, 2⟩ : Pol)] = 0)) && (decide (((n16 : Nat) : Int) = 1))) then (.pointer (some ⟨bs28, os29 + 0 * 2, none⟩)) else undef), fun v _ => v = (bif ((decide (chosenE [(⟨5, 2⟩ : Pol)] = 0)) && (decide (((n16 : Nat) : Int) = 1))) then (.agg #[.int .i64 x_exQ_0.1, .int .i64 x_exQ_0.2]) else undef), fun v _ => v = (bif ((decide (chosenE [(⟨5, 2⟩ : Pol)] = 0)) && (decide (((n16 : Nat) : Int) = 1))) then (.agg #[.int .i64 5, .int .i64 6]) else undef), fun v _ => v = (bif ((decide (chosenE [(⟨5, 2⟩ : Pol)] = 0)) && (decide (((n16 : Nat) : Int) = 1))) then (.bool ((decide (x_exQ_0.1 = 5)) && (decide (x_exQ_0.2 = 6)))) else undef), fun v _ => v = .bool (((decide (chosenE [(⟨5, 2⟩ : Pol)] = 0)) && (decide (((n16 : Nat) : Int) = 1))) && ((decide (x_exQ_0.1 = 5)) && (decide (x_exQ_0.2 = 6)))), fun v _ => v = .bool (((decide (chosenE [(⟨5, 2⟩ : Pol)] = 0)) && (decide (((n16 : Nat) : Int) = 1))) && ((decide (x_exQ_0.1 = 5)) && (decide (x_exQ_0.2 = 6)))), fun v _ => v = (bif (((decide (chosenE [(⟨5, 2⟩ : Pol)] = 0)) && (decide (((n16 : Nat) : Int) = 1))) && ((decide (x_exQ_0.1 = 5)) && (decide (x_exQ_0.2 = 6)))) then (.int .i64 ((agree [(⟨10, 50⟩ : Pol)] [(⟨10, 20⟩ : Pol)]).2.2)) else undef), fun v _ => v = (bif (((decide (chosenE [(⟨5, 2⟩ : Pol)] = 0)) && (decide (((n16 : Nat) : Int) = 1))) && ((decide (x_exQ_0.1 = 5)) && (decide (x_exQ_0.2 = 6)))) then (.bool (decide ((agree [(⟨10, 50⟩ : Pol)] [(⟨10, 20⟩ : Pol)]).2.2 = 0))) else undef), fun v _ => v = .bool ((((decide (chosenE [(⟨5, 2⟩ : Pol)] = 0)) && (decide (((n16 : Nat) : Int) = 1))) && ((decide (x_exQ_0.1 = 5)) && (decide (x_exQ_0.2 = 6)))) && (decide ((agree [(⟨10, 50⟩ : Pol)] [(⟨10, 20⟩ : Pol)]).2.2 = 0))), fun v _ => v = .bool ((((decide (chosenE [(⟨5, 2⟩ : Pol)] = 0)) && (decide (((n16 : Nat) : Int) = 1))) && ((decide (x_exQ_0.1 = 5)) && (decide (x_exQ_0.2 = 6)))) && (decide ((agree [(⟨10, 50⟩ : Pol)] [(⟨10, 20⟩ : Pol)]).2.2 = 0))), fun v _ => v = (bif ((((decide (chosenE [(⟨5, 2⟩ : Pol)] = 0)) && (decide (((n16 : Nat) : Int) = 1))) && ((decide (x_exQ_0.1 = 5)) && (decide (x_exQ_0.2 = 6)))) && (decide ((agree [(⟨10, 50⟩ : Pol)] [(⟨10, 20⟩ : Pol)]).2.2 = 0))) then (.slice A120 n121 c122) else undef), fun v _ => v = (bif ((((decide (chosenE [(⟨5, 2⟩ : Pol)] = 0)) && (decide (((n16 : Nat) : Int) = 1))) && ((decide (x_exQ_0.1 = 5)) && (decide (x_exQ_0.2 = 6)))) && (decide ((agree [(⟨10, 50⟩ : Pol)] [(⟨10, 20⟩ : Pol)]).2.2 = 0))) then (.int .i64 ((n121 : Nat) : Int)) else undef), fun v _ => v = (bif ((((decide (chosenE [(⟨5, 2⟩ : Pol)] = 0)) && (decide (((n16 : Nat) : Int) = 1))) && ((decide (x_exQ_0.1 = 5)) && (decide (x_exQ_0.2 = 6)))) && (decide ((agree [(⟨10, 50⟩ : Pol)] [(⟨10, 20⟩ : Pol)]).2.2 = 0))) then (.bool (decide (((n121 : Nat) : Int) = 1))) else undef), fun v _ => v = .bool (((((decide (chosenE [(⟨5, 2⟩ : Pol)] = 0)) && (decide (((n16 : Nat) : Int) = 1))) && ((decide (x_exQ_0.1 = 5)) && (decide (x_exQ_0.2 = 6)))) && (decide ((agree [(⟨10, 50⟩ : Pol)] [(⟨10, 20⟩ : Pol)]).2.2 = 0))) && (decide (((n121 : Nat) : Int) = 1))), fun v _ => v = .bool (((((decide (chosenE [(⟨5, 2⟩ : Pol)] = 0)) && (decide (((n16 : Nat) : Int) = 1))) && ((decide (x_exQ_0.1 = 5)) && (decide (x_exQ_0.2 = 6)))) && (decide ((agree [(⟨10, 50⟩ : Pol)] [(⟨10, 20⟩ : Pol)]).2.2 = 0))) && (decide (((n121 : Nat) : Int) = 1))), fun v _ => v = (bif (((((decide (chosenE [(⟨5, 2⟩ : Pol)] = 0)) && (decide (((n16 : Nat) : Int) = 1))) && ((decide (x_exQ_0.1 = 5)) && (decide (x_exQ_0.2 = 6)))) && (decide ((agree [(⟨10, 50⟩ : Pol)] [(⟨10, 20⟩ : Pol)]).2.2 = 0))) && (decide (((n121 : Nat) : Int) = 1))) then (.slice A120 n121 c122) else undef), fun v _ => v = (bif (((((decide (chosenE [(⟨5, 2⟩ : Pol)] = 0)) && (decide (((n16 : Nat) : Int) = 1))) && ((decide (x_exQ_0.1 = 5)) && (decide (x_exQ_0.2 = 6)))) && (decide ((agree [(⟨10, 50⟩ : Pol)] [(⟨10, 20⟩ : Pol)]).2.2 = 0))) && (decide (((n121 : Nat) : Int) = 1))) then (.pointer (some ⟨bs35, os36 + 0 * 2, none⟩)) else undef), fun v _ => v = (bif (((((decide (chosenE [(⟨5, 2⟩ : Pol)] = 0)) && (decide (((n16 : Nat) : Int) = 1))) && ((decide (x_exQ_0.1 = 5)) && (decide (x_exQ_0.2 = 6)))) && (decide ((agree [(⟨10, 50⟩ : Pol)] [(⟨10, 20⟩ : Pol)]).2.2 = 0))) && (decide (((n121 : Nat) : Int) = 1))) then (.agg #[.int .i64 x_exP_0.kind, .int .i64 x_exP_0.val]) else undef), fun v _ => v = (bif (((((decide (chosenE [(⟨5, 2⟩ : Pol)] = 0)) && (decide (((n16 : Nat) : Int) = 1))) && ((decide (x_exQ_0.1 = 5)) && (decide (x_exQ_0.2 = 6)))) && (decide ((agree [(⟨10, 50⟩ : Pol)] [(⟨10, 20⟩ : Pol)]).2.2 = 0))) && (decide (((n121 : Nat) : Int) = 1))) then (.agg #[.int .i64 10, .int .i64 20]) else undef), fun v _ => v = (bif (((((decide (chosenE [(⟨5, 2⟩ : Pol)] = 0)) && (decide (((n16 : Nat) : Int) = 1))) && ((decide (x_exQ_0.1 = 5)) && (decide (x_exQ_0.2 = 6)))) && (decide ((agree [(⟨10, 50⟩ : Pol)] [(⟨10, 20⟩ : Pol)]).2.2 = 0))) && (decide (((n121 : Nat) : Int) = 1))) then (.bool ((decide (x_exP_0.kind = 10)) && (decide (x_exP_0.val = 20)))) else undef), fun v _ => v = .bool ((((((decide (chosenE [(⟨5, 2⟩ : Pol)] = 0)) && (decide (((n16 : Nat) : Int) = 1))) && ((decide (x_exQ_0.1 = 5)) && (decide (x_exQ_0.2 = 6)))) && (decide ((agree [(⟨10, 50⟩ : Pol)] [(⟨10, 20⟩ : Pol)]).2.2 = 0))) && (decide (((n121 : Nat) : Int) = 1))) && ((decide (x_exP_0.kind = 10)) && (decide (x_exP_0.val = 20)))), fun v _ => v = .bool ((((((decide (chosenE [(⟨5, 2⟩ : Pol)] = 0)) && (decide (((n16 : Nat) : Int) = 1))) && ((decide (x_exQ_0.1 = 5)) && (decide (x_exQ_0.2 = 6)))) && (decide ((agree [(⟨10, 50⟩ : Pol)] [(⟨10, 20⟩ : Pol)]).2.2 = 0))) && (decide (((n121 : Nat) : Int) = 1))) && ((decide (x_exP_0.kind = 10)) && (decide (x_exP_0.val = 20))))] [[], [0], [1], [2], [2, 3], [2, 4], [2, 5], [6], [7], [7, 8], [7, 9], [7], [7, 10, 11], [7, 12], [13], [14], [14, 15], [14, 16], [17], [18], [18, 19], [18, 20], [18, 21], [22], [23], [23, 24], [23, 25], [23], [23, 26, 27], [23, 28], [29]] [30] rfl rfl rfl ⟨fun _ _ _ _ h => h, fun _ _ _ _ h => h, fun _ _ _ _ h => h, fun _ _ _ _ h => h, fun _ _ _ _ h => h, fun _ _ _ _ h => h, fun _ _ _ _ h => h, fun _ _ _ _ h => h, fun _ _ _ _ h => h, fun _ _ _ _ h => h, fun _ _ _ _ h => h, fun _ _ _ _ h => h, fun _ _ _ _ h => h, fun _ _ _ _ h => h, fun _ _ _ _ h => h, fun _ _ _ _ h => h, fun _ _ _ _ h => h, fun _ _ _ _ h => h, fun _ _ _ _ h => h, fun _ _ _ _ h => h, fun _ _ _ _ h => h, fun _ _ _ _ h => h, fun _ _ _ _ h => h, fun _ _ _ _ h => h, fun _ _ _ _ h => h, fun _ _ _ _ h => h, fun _ _ _ _ h => h, fun _ _ _ _ h => h, fun _ _ _ _ h => h, fun _ _ _ _ h => h, fun _ _ _ _ h => h, trivial⟩ ⟨?_, ?_, ?_, ?_, ?_, ?_, ?_, ?_, ?_, ?_, ?_, ?_, ?_, ?_, ?_, ?_, ?_, ?_, ?_, ?_, ?_, ?_, ?_, ?_, ?_, ?_, ?_, ?_, ?_, ?_, ?_, trivial⟩ ?_
  · intro W26 hW27
    refine gather_nil ?_
    refine opg_none rfl ?_
    exact op_move rfl rfl ⟨told rfl rfl rfl, (Below.refl _ _)⟩
  · intro W26 hW27
    rintro _ rfl
    refine gather_nil ?_
    refine opg_none rfl ?_
    exact op_eql rfl rfl rfl ⟨told rfl rfl rfl, (Below.refl _ _)⟩
  · intro W26 hW27
    rintro _ rfl
    refine gather_nil ?_
    refine opg_none rfl ?_
    exact op_move rfl rfl ⟨told rfl rfl rfl, (Below.refl _ _)⟩
  · intro W26 hW27
    rintro _ rfl
    refine gather_nil ?_
    refine opg_t1 rfl rfl (fun hg42 => ?_) (fun h => by rw [h, cond_false])
    exact op_move rfl rfl ⟨told rfl rfl (by rw [hg42, cond_true]), (Below.refl _ _)⟩
  · intro W26 hW27
    rintro _ rfl
    intro v43 (hv44 : v43 = bif (decide (chosenE [(⟨5, 2⟩ : Pol)] = 0)) then (.slice A15 n16 c17) else undef)
    refine gather_nil ?_
    refine opg_t1 rfl rfl (fun hg45 => ?_) (fun h => by rw [h, cond_false])
    have hd46 := of_decide_eq_true hg45
    obtain rfl : v43 = .slice A15 n16 c17 := by rw [hv44, hg45, cond_true]
    exact op_len_slice rfl rfl und25 rfl rfl ⟨told rfl rfl (by rw [hg45, cond_true]), (Below.refl _ _)⟩
  · intro W26 hW27
    rintro _ rfl
    intro v47 (hv48 : v47 = bif (decide (chosenE [(⟨5, 2⟩ : Pol)] = 0)) then (.int .i64 ((n16 : Nat) : Int)) else undef)
    refine gather_nil ?_
    refine opg_t1 rfl rfl (fun hg49 => ?_) (fun h => by rw [h, cond_false])
    have hd50 := of_decide_eq_true hg49
    obtain rfl : v47 = .int .i64 ((n16 : Nat) : Int) := by rw [hv48, hg49, cond_true]
    exact op_eql rfl rfl rfl ⟨told rfl rfl (by rw [hg49, cond_true]), (Below.refl _ _)⟩
  · intro W26 hW27
    rintro _ rfl
    intro v51 (hv52 : v51 = bif (decide (chosenE [(⟨5, 2⟩ : Pol)] = 0)) then (.bool (decide (((n16 : Nat) : Int) = 1))) else undef)
    refine gather_nil ?_
    refine opg_none rfl ?_
    exact op_and rfl rfl rfl (fun h => by rw [hv52, h, cond_true]) rfl ⟨told rfl rfl rfl, (Below.refl _ _)⟩
  · intro W26 hW27
    rintro _ rfl
    refine gather_nil ?_
    refine opg_none rfl ?_
    exact op_move rfl rfl ⟨told rfl rfl rfl, (Below.refl _ _)⟩
  · intro W26 hW27
    rintro _ rfl
    refine gather_nil ?_
    refine opg_t1 rfl rfl (fun hg53 => ?_) (fun h => by rw [h, cond_false])
    exact op_move rfl rfl ⟨told rfl rfl (by rw [hg53, cond_true]), (Below.refl _ _)⟩
  · intro W26 hW27
    rintro _ rfl
    intro v54 (hv55 : v54 = bif ((decide (chosenE [(⟨5, 2⟩ : Pol)] = 0)) && (decide (((n16 : Nat) : Int) = 1))) then (.slice A15 n16 c17) else undef)
    refine gather_nil ?_
    refine opg_t1 rfl rfl (fun hg56 => ?_) (fun h => by rw [h, cond_false])
    obtain rfl : v54 = .slice A15 n16 c17 := by rw [hv55, hg56, cond_true]
    exact op_indexAddr (j := 0) rfl rfl und25 sz29 (hA30 (by omega)) rfl (by omega) rfl ⟨told rfl rfl (by rw [hg56, cond_true]), (Below.refl _ _)⟩
  · intro W26 hW27
    rintro _ rfl
    intro v57 (hv58 : v57 = bif ((decide (chosenE [(⟨5, 2⟩ : Pol)] = 0)) && (decide (((n16 : Nat) : Int) = 1))) then (.pointer (some ⟨bs28, os29 + 0 * 2, none⟩)) else undef)
    refine gather_nil ?_
    refine opg_t1 rfl rfl (fun hg59 => ?_) (fun h => by rw [h, cond_false])
    obtain rfl : v57 = .pointer (some ⟨bs28, os29 + 0 * 2, none⟩) := by rw [hv58, hg59, cond_true]
    have hB60 : Below W9.heap.size W9 W26 := (below_step (below_step (below_new (below_new (Below.refl _ _) hN13) hN17) hE25) hW27)
    exact op_loadN (vs := [.int .i64 x_exQ_0.1, .int .i64 x_exQ_0.2]) rfl agg29 sz29 rfl ((hc31 0 x_exQ_0 (hx_exQ_0 (by have := hp8.len; omega))).ext hB60) rfl ⟨told rfl rfl (by rw [hg59, cond_true]), (Below.refl _ _)⟩
  · intro W26 hW27
    rintro _ rfl
    refine gather_nil ?_
    refine opg_t1 rfl rfl (fun hg61 => ?_) (fun h => by rw [h, cond_false])
    exact op_build (v := .agg #[.int .i64 5, .int .i64 6]) rfl (fun w => by kernel_rfl) rfl ⟨told rfl rfl (by rw [hg61, cond_true]), (Below.refl _ _)⟩
  · intro W26 hW27
    rintro _ rfl
    intro v62 (hv63 : v62 = bif ((decide (chosenE [(⟨5, 2⟩ : Pol)] = 0)) && (decide (((n16 : Nat) : Int) = 1))) then (.agg #[.int .i64 x_exQ_0.1, .int .i64 x_exQ_0.2]) else undef)
    intro v64 (hv65 : v64 = bif ((decide (chosenE [(⟨5, 2⟩ : Pol)] = 0)) && (decide (((n16 : Nat) : Int) = 1))) then (.agg #[.int .i64 5, .int .i64 6]) else undef)
    refine gather_nil ?_
    refine opg_t1 rfl rfl (fun hg66 => ?_) (fun h => by rw [h, cond_false])
    obtain rfl : v62 = .agg #[.int .i64 x_exQ_0.1, .int .i64 x_exQ_0.2] := by rw [hv63, hg66, cond_true]
    obtain rfl : v64 = .agg #[.int .i64 5, .int .i64 6] := by rw [hv65, hg66, cond_true]
    exact op_eqlA (X := [.int .i64 x_exQ_0.1, .int .i64 x_exQ_0.2]) (Y := [.int .i64 5, .int .i64 6]) (b := (decide (x_exQ_0.1 = 5)) && (decide (x_exQ_0.2 = 6))) rfl rfl eq29 rfl rfl ⟨told rfl rfl (by rw [hg66, cond_true]), (Below.refl _ _)⟩
  · intro W26 hW27
    rintro _ rfl
    intro v67 (hv68 : v67 = bif ((decide (chosenE [(⟨5, 2⟩ : Pol)] = 0)) && (decide (((n16 : Nat) : Int) = 1))) then (.bool ((decide (x_exQ_0.1 = 5)) && (decide (x_exQ_0.2 = 6)))) else undef)
    refine gather_nil ?_
    refine opg_none rfl ?_
    exact op_and rfl rfl rfl (fun h => by rw [hv68, h, cond_true]) rfl ⟨told rfl rfl rfl, (Below.refl _ _)⟩
  · intro W26 hW27
    rintro _ rfl
    refine gather_nil ?_
    refine opg_none rfl ?_
    exact op_move rfl rfl ⟨told rfl rfl rfl, (Below.refl _ _)⟩
  · intro W26 hW27
    rintro _ rfl
    refine gather_nil ?_
    refine opg_t1 rfl rfl (fun hg69 => ?_) (fun h => by rw [h, cond_false])
    exact op_move rfl rfl ⟨told rfl rfl (by rw [hg69, cond_true]), (Below.refl _ _)⟩
  · intro W26 hW27
    rintro _ rfl
    intro v70 (hv71 : v70 = bif (((decide (chosenE [(⟨5, 2⟩ : Pol)] = 0)) && (decide (((n16 : Nat) : Int) = 1))) && ((decide (x_exQ_0.1 = 5)) && (decide (x_exQ_0.2 = 6)))) then (.int .i64 ((agree [(⟨10, 50⟩ : Pol)] [(⟨10, 20⟩ : Pol)]).2.2)) else undef)
    refine gather_nil ?_
    refine opg_t1 rfl rfl (fun hg72 => ?_) (fun h => by rw [h, cond_false])
    obtain rfl : v70 = .int .i64 ((agree [(⟨10, 50⟩ : Pol)] [(⟨10, 20⟩ : Pol)]).2.2) := by rw [hv71, hg72, cond_true]
    exact op_eql rfl rfl rfl ⟨told rfl rfl (by rw [hg72, cond_true]), (Below.refl _ _)⟩
  · intro W26 hW27
    rintro _ rfl
    intro v73 (hv74 : v73 = bif (((decide (chosenE [(⟨5, 2⟩ : Pol)] = 0)) && (decide (((n16 : Nat) : Int) = 1))) && ((decide (x_exQ_0.1 = 5)) && (decide (x_exQ_0.2 = 6)))) then (.bool (decide ((agree [(⟨10, 50⟩ : Pol)] [(⟨10, 20⟩ : Pol)]).2.2 = 0))) else undef)
    refine gather_nil ?_
    refine opg_none rfl ?_
    exact op_and rfl rfl rfl (fun h => by rw [hv74, h, cond_true]) rfl ⟨told rfl rfl rfl, (Below.refl _ _)⟩
  · intro W26 hW27
    rintro _ rfl
    refine gather_nil ?_
    refine opg_none rfl ?_
    exact op_move rfl rfl ⟨told rfl rfl rfl, (Below.refl _ _)⟩
  · intro W26 hW27
    rintro _ rfl
    refine gather_nil ?_
    refine opg_t1 rfl rfl (fun hg75 => ?_) (fun h => by rw [h, cond_false])
    exact op_move rfl rfl ⟨told rfl rfl (by rw [hg75, cond_true]), (Below.refl _ _)⟩
  · intro W26 hW27
    rintro _ rfl
    intro v76 (hv77 : v76 = bif ((((decide (chosenE [(⟨5, 2⟩ : Pol)] = 0)) && (decide (((n16 : Nat) : Int) = 1))) && ((decide (x_exQ_0.1 = 5)) && (decide (x_exQ_0.2 = 6)))) && (decide ((agree [(⟨10, 50⟩ : Pol)] [(⟨10, 20⟩ : Pol)]).2.2 = 0))) then (.slice A120 n121 c122) else undef)
    refine gather_nil ?_
    refine opg_t1 rfl rfl (fun hg78 => ?_) (fun h => by rw [h, cond_false])
    obtain rfl : v76 = .slice A120 n121 c122 := by rw [hv77, hg78, cond_true]
    exact op_len_slice rfl rfl und22 rfl rfl ⟨told rfl rfl (by rw [hg78, cond_true]), (Below.refl _ _)⟩
  · intro W26 hW27
    rintro _ rfl
    intro v79 (hv80 : v79 = bif ((((decide (chosenE [(⟨5, 2⟩ : Pol)] = 0)) && (decide (((n16 : Nat) : Int) = 1))) && ((decide (x_exQ_0.1 = 5)) && (decide (x_exQ_0.2 = 6)))) && (decide ((agree [(⟨10, 50⟩ : Pol)] [(⟨10, 20⟩ : Pol)]).2.2 = 0))) then (.int .i64 ((n121 : Nat) : Int)) else undef)
    refine gather_nil ?_
    refine opg_t1 rfl rfl (fun hg81 => ?_) (fun h => by rw [h, cond_false])
    obtain rfl : v79 = .int .i64 ((n121 : Nat) : Int) := by rw [hv80, hg81, cond_true]
    exact op_eql rfl rfl rfl ⟨told rfl rfl (by rw [hg81, cond_true]), (Below.refl _ _)⟩
  · intro W26 hW27
    rintro _ rfl
    intro v82 (hv83 : v82 = bif ((((decide (chosenE [(⟨5, 2⟩ : Pol)] = 0)) && (decide (((n16 : Nat) : Int) = 1))) && ((decide (x_exQ_0.1 = 5)) && (decide (x_exQ_0.2 = 6)))) && (decide ((agree [(⟨10, 50⟩ : Pol)] [(⟨10, 20⟩ : Pol)]).2.2 = 0))) then (.bool (decide (((n121 : Nat) : Int) = 1))) else undef)
    refine gather_nil ?_
    refine opg_none rfl ?_
    exact op_and rfl rfl rfl (fun h => by rw [hv83, h, cond_true]) rfl ⟨told rfl rfl rfl, (Below.refl _ _)⟩
  · intro W26 hW27
    rintro _ rfl
    refine gather_nil ?_
    refine opg_none rfl ?_
    exact op_move rfl rfl ⟨told rfl rfl rfl, (Below.refl _ _)⟩
  · intro W26 hW27
    rintro _ rfl
    refine gather_nil ?_
    refine opg_t1 rfl rfl (fun hg84 => ?_) (fun h => by rw [h, cond_false])
    exact op_move rfl rfl ⟨told rfl rfl (by rw [hg84, cond_true]), (Below.refl _ _)⟩
  · intro W26 hW27
    rintro _ rfl
    intro v85 (hv86 : v85 = bif (((((decide (chosenE [(⟨5, 2⟩ : Pol)] = 0)) && (decide (((n16 : Nat) : Int) = 1))) && ((decide (x_exQ_0.1 = 5)) && (decide (x_exQ_0.2 = 6)))) && (decide ((agree [(⟨10, 50⟩ : Pol)] [(⟨10, 20⟩ : Pol)]).2.2 = 0))) && (decide (((n121 : Nat) : Int) = 1))) then (.slice A120 n121 c122) else undef)
    refine gather_nil ?_
    refine opg_t1 rfl rfl (fun hg87 => ?_) (fun h => by rw [h, cond_false])
    obtain rfl : v85 = .slice A120 n121 c122 := by rw [hv86, hg87, cond_true]
    exact op_indexAddr (j := 0) rfl rfl und22 sz46 (hA37 (by omega)) rfl (by omega) rfl ⟨told rfl rfl (by rw [hg87, cond_true]), (Below.refl _ _)⟩
  · intro W26 hW27
    rintro _ rfl
    intro v88 (hv89 : v88 = bif (((((decide (chosenE [(⟨5, 2⟩ : Pol)] = 0)) && (decide (((n16 : Nat) : Int) = 1))) && ((decide (x_exQ_0.1 = 5)) && (decide (x_exQ_0.2 = 6)))) && (decide ((agree [(⟨10, 50⟩ : Pol)] [(⟨10, 20⟩ : Pol)]).2.2 = 0))) && (decide (((n121 : Nat) : Int) = 1))) then (.pointer (some ⟨bs35, os36 + 0 * 2, none⟩)) else undef)
    refine gather_nil ?_
    refine opg_t1 rfl rfl (fun hg90 => ?_) (fun h => by rw [h, cond_false])
    obtain rfl : v88 = .pointer (some ⟨bs35, os36 + 0 * 2, none⟩) := by rw [hv89, hg90, cond_true]
    have hB91 : Below W24.heap.size W24 W26 := (below_step (Below.refl _ _) hW27)
    exact op_loadN (vs := [.int .i64 x_exP_0.kind, .int .i64 x_exP_0.val]) rfl agg46 sz46 rfl ((hc38 0 x_exP_0 (hx_exP_0 (by have := hp23.len; omega))).ext hB91) rfl ⟨told rfl rfl (by rw [hg90, cond_true]), (Below.refl _ _)⟩
  · intro W26 hW27
    rintro _ rfl
    refine gather_nil ?_
    refine opg_t1 rfl rfl (fun hg92 => ?_) (fun h => by rw [h, cond_false])
    exact op_build (v := .agg #[.int .i64 10, .int .i64 20]) rfl (fun w => by kernel_rfl) rfl ⟨told rfl rfl (by rw [hg92, cond_true]), (Below.refl _ _)⟩
  · intro W26 hW27
    rintro _ rfl
    intro v93 (hv94 : v93 = bif (((((decide (chosenE [(⟨5, 2⟩ : Pol)] = 0)) && (decide (((n16 : Nat) : Int) = 1))) && ((decide (x_exQ_0.1 = 5)) && (decide (x_exQ_0.2 = 6)))) && (decide ((agree [(⟨10, 50⟩ : Pol)] [(⟨10, 20⟩ : Pol)]).2.2 = 0))) && (decide (((n121 : Nat) : Int) = 1))) then (.agg #[.int .i64 x_exP_0.kind, .int .i64 x_exP_0.val]) else undef)
    intro v95 (hv96 : v95 = bif (((((decide (chosenE [(⟨5, 2⟩ : Pol)] = 0)) && (decide (((n16 : Nat) : Int) = 1))) && ((decide (x_exQ_0.1 = 5)) && (decide (x_exQ_0.2 = 6)))) && (decide ((agree [(⟨10, 50⟩ : Pol)] [(⟨10, 20⟩ : Pol)]).2.2 = 0))) && (decide (((n121 : Nat) : Int) = 1))) then (.agg #[.int .i64 10, .int .i64 20]) else undef)
    refine gather_nil ?_
    refine opg_t1 rfl rfl (fun hg97 => ?_) (fun h => by rw [h, cond_false])
    obtain rfl : v93 = .agg #[.int .i64 x_exP_0.kind, .int .i64 x_exP_0.val] := by rw [hv94, hg97, cond_true]
    obtain rfl : v95 = .agg #[.int .i64 10, .int .i64 20] := by rw [hv96, hg97, cond_true]
    exact op_eqlA (X := [.int .i64 x_exP_0.kind, .int .i64 x_exP_0.val]) (Y := [.int .i64 10, .int .i64 20]) (b := (decide (x_exP_0.kind = 10)) && (decide (x_exP_0.val = 20))) rfl rfl eq46 rfl rfl ⟨told rfl rfl (by rw [hg97, cond_true]), (Below.refl _ _)⟩
  · intro W26 hW27
    rintro _ rfl
    intro v98 (hv99 : v98 = bif (((((decide (chosenE [(⟨5, 2⟩ : Pol)] = 0)) && (decide (((n16 : Nat) : Int) = 1))) && ((decide (x_exQ_0.1 = 5)) && (decide (x_exQ_0.2 = 6)))) && (decide ((agree [(⟨10, 50⟩ : Pol)] [(⟨10, 20⟩ : Pol)]).2.2 = 0))) && (decide (((n121 : Nat) : Int) = 1))) then (.bool ((decide (x_exP_0.kind = 10)) && (decide (x_exP_0.val = 20)))) else undef)
    refine gather_nil ?_
    refine opg_none rfl ?_
    exact op_and rfl rfl rfl (fun h => by rw [hv99, h, cond_true]) rfl ⟨told rfl rfl rfl, (Below.refl _ _)⟩
  · intro W26 hW27
    rintro _ rfl
    refine gather_nil ?_
    refine opg_none rfl ?_
    exact op_assign rfl rfl ⟨told rfl rfl rfl, (Below.refl _ _)⟩
  intro W100 hW101
  rintro _ rfl
  refine gather_nil ?_
  refine (then_norm ?_)
  refine wc_ret ?_
  have hB102 : Below w.heap.size w W100 := (below_step (below_step (below_new (below_new (below_step (below_new (Below.refl _ _) hN3) hE10) hN13) hN17) hE25) hW101)
  refine ⟨[_], ⟨rfl, trivial⟩, ⟨?_, hB102⟩⟩
  exact congrArg Value.bool (awake_ok hl1 hl2 hx_exQ_0 hx_exP_0)

end Go.Eng
