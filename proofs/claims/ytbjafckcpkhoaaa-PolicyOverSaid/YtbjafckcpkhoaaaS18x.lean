/- Lemmas for a law of the seat: what functions of the program do, each stated as a contract of its own (module S18x). -/
import Derived.Test.YtbjafckcpkhoaaaS18w
import Derived.Test.YtbjafckcpkhoaaaEngF
import Derived.Test.YtbjafckcpkhoaaaEngH
import Derived.Test.YtbjafckcpkhoaaaChecked
set_option linter.unusedVariables false
set_option maxRecDepth 100000
namespace Go.Eng
open Go.RowKit Go.Shelf Go.Proofs Pol

theorem ent16 : Enters Try.prog 16 := enters_of Try.func16 (by kernel_rfl) rfl
theorem ent17 : Enters Try.prog 17 := enters_of Try.func17 (by kernel_rfl) rfl
theorem ent18 : Enters Try.prog 18 := enters_of Try.func18 (by kernel_rfl) rfl
theorem ent19 : Enters Try.prog 19 := enters_of Try.func19 (by kernel_rfl) rfl
theorem ent20 : Enters Try.prog 20 := enters_of Try.func20 (by kernel_rfl) rfl
theorem und4 : Und Try.prog 4 .bool := by unfold Und; kernel_rfl

theorem over_law {a b c : List Pol} (ha : validSet a = true) (hb : validSet b = true) (hc : validSet c = true) :
    (((((decide (overR (overR a b) c = overR a (overR b c))) && (decide (overR (overR a b) c = effR [a, b, c]))) && (decide (overR a a = a))) && (decide (sameR a b = decide (chosenL a keepPlain = chosenL b keepPlain)))) && true) = true := by
  have h1 : overR a b = overL a b := if_pos ⟨ha, hb⟩
  have h2 : overR b c = overL b c := if_pos ⟨hb, hc⟩
  have hab := overL_valid ha hb
  have hbc := overL_valid hb hc
  have h3 : overR (overL a b) c = overL (overL a b) c := if_pos ⟨hab, hc⟩
  have h4 : overR a (overL b c) = overL a (overL b c) := if_pos ⟨ha, hbc⟩
  have h5 : overR a a = overL a a := if_pos ⟨ha, ha⟩
  have h6 : effR [a, b, c] = overL (overL a b) c := by
    have : allV [a, b, c] = true := by simp [allV, ha, hb, hc]
    rw [effR, if_pos this]
    show overL (overL (overL [] a) b) c = _
    rw [overL_nil]
  have h7 : sameR a b = decide (chosenL a keepPlain = chosenL b keepPlain) := if_pos ⟨ha, hb⟩
  have sa := (valid_iff.1 ha).1
  have sb := (valid_iff.1 hb).1
  have sc := (valid_iff.1 hc).1
  rw [h1, h2, h3, h4, h5, h6, h7, over_assoc sa sb sc, over_self sa]; simp
theorem over_cmp (a b c : List Pol) : ((((((!decide (overR a b = rOverR a b)) || (!decide (overE a b = overE a b))) || (!decide (effR [a, b, c] = rEffR [a, b, c]))) || (!decide (effE [a, b, c] = effE [a, b, c]))) || (!decide (sameR a b = rSameR a b))) || (!decide (overE a b = overE a b))) = false := by
  rw [over_eq, eff_eq, same_eq]; simp

theorem PolicyOver_spec {w : World} {A : Option Addr} {n c : Nat} {a : List Pol} {A2 : Option Addr} {n2 c2 : Nat} {b : List Pol} {A3 : Option Addr} {n3 c3 : Nat} {d : List Pol} (hs : RdP w A n a) (hs2 : RdP w A2 n2 b) (hs3 : RdP w A3 n3 d) (hc : n ≤ c) (hc2 : n2 ≤ c2) (hc3 : n3 ≤ c3) : Ret Try.prog 4 #[.slice A n c, .slice A2 n2 c2, .slice A3 n3 c3] w (fun v w' => v = .bool true ∧ Below w.heap.size w w') := by
  obtain ⟨bs1, os2, hA3, hc4⟩ := hs.flat
  have hln5 := hs.len
  have hbd6 := hs.bd
  have hlen_a := hs.len
  obtain ⟨bs7, os8, hA9, hc10⟩ := hs2.flat
  have hln11 := hs2.len
  have hbd12 := hs2.bd
  have hlen_b := hs2.len
  obtain ⟨bs13, os14, hA15, hc16⟩ := hs3.flat
  have hln17 := hs3.len
  have hbd18 := hs3.bd
  have hlen_d := hs3.len
  refine ret_of (args := [.slice A n c, .slice A2 n2 c2, .slice A3 n3 c3]) Try.func4 rfl Try.ntmps4 rfl (rs := [.tmp 6]) rfl ?_
  refine wc_seq ?_
  refine wc_region ?_
  refine wl_op rfl (op_assign rfl rfl ?_)
  refine (wl_done (then_norm ?_))
  refine wc_seq ?_
  refine wc_seq ?_
  refine wc_region ?_
  refine wl_op rfl (op_move rfl rfl ?_)
  refine wl_op rfl (op_move rfl rfl ?_)
  refine wl_op rfl (op_move rfl rfl ?_)
  refine wl_op rfl (op_buildSlice (cs := #[.slice A n c, .slice A2 n2 c2, .slice A3 n3 c3]) (e := 22) rfl (fun w => by kernel_rfl) rfl ?_)
  intro W19 b20 hN21
  have hb22 : W19.heap[b20]? = some (.cells #[.slice A n c, .slice A2 n2 c2, .slice A3 n3 c3] 22 (0, 0)) := hN21.blk
  refine wl_op rfl (op_call ent6 rfl (short_spec (rd_of_blk (enc := encH) [(⟨A, n, c⟩ : Hdr), (⟨A2, n2, c2⟩ : Hdr), (⟨A3, n3, c3⟩ : Hdr)] hb22 (fun _ => rfl) rfl rfl rfl)) rfl ?_)
  rintro _ W23 ⟨rfl, hE24⟩
  refine wl_op rfl (op_not rfl rfl ?_)
  refine (wl_done (then_norm ?_))
  refine wc_cond (b := !(shortH [(⟨A, n, c⟩ : Hdr), (⟨A2, n2, c2⟩ : Hdr), (⟨A3, n3, c3⟩ : Hdr)])) rfl (fun hc25 => ?_) (fun hc25 => ?_)
  · refine wc_seq ?_
    refine wc_region ?_
    refine wl_op rfl (op_call ent7 rfl (awake_spec) rfl ?_)
    rintro _ W26 ⟨rfl, hE27⟩
    refine wl_op rfl (op_assign rfl rfl ?_)
    refine (wl_done (then_norm ?_))
    refine WC.sub [(0, .slice A n c), (1, .slice A2 n2 c2), (2, .slice A3 n3 c3), (6, .bool true)] ⟨rfl, rfl, rfl, rfl, trivial⟩ ?_
    refine wc_ret ?_
    refine (then_ret ?_)
    have hB28 : Below w.heap.size w W26 := (below_step (below_step (below_new (Below.refl _ _) hN21) hE24) hE27)
    refine ⟨[_], ⟨rfl, trivial⟩, ⟨?_, hB28⟩⟩
    exact rfl
  · have hsh := short3 (by simpa using hc25)
    have hla := overR_len a b
    have hlb := overR_len b d
    obtain ⟨hn1, hn2, hn3⟩ := hsh
    have hsh := And.intro hn1 (And.intro hn2 hn3)
    refine wc_skip ?_
    refine (then_norm ?_)
    refine WC.sub [(0, .slice A n c), (1, .slice A2 n2 c2), (2, .slice A3 n3 c3), (6, .bool false)] ⟨rfl, rfl, rfl, rfl, trivial⟩ ?_
    refine wc_seq ?_
    refine wc_region ?_
    refine wl_op rfl (op_move rfl rfl ?_)
    refine wl_op rfl (op_move rfl rfl ?_)
    have hB29 : Below w.heap.size w W23 := (below_step (below_new (Below.refl _ _) hN21) hE24)
    refine wl_op rfl (op_call ent15 rfl (Over_spec (hs.ext (flat_lifts _) hB29) (hs2.ext (flat_lifts _) hB29) (by omega) (by omega) (by omega) (by omega)) rfl ?_)
    rintro _ W35 ⟨A130, n131, c132, rfl, hp33, hp34, hE36⟩
    have := hp33.len
    refine wl_op rfl (op_move rfl rfl ?_)
    refine wl_op rfl (op_extract (v := .slice A130 n131 c132) rfl rfl rfl ?_)
    refine wl_op rfl (op_extract (v := .int .i64 (overE a b)) rfl rfl rfl ?_)
    refine wl_op rfl (op_assign rfl rfl ?_)
    refine wl_op rfl (op_assign rfl rfl ?_)
    refine (wl_done (then_norm ?_))
    refine WC.sub [(0, .slice A n c), (1, .slice A2 n2 c2), (2, .slice A3 n3 c3), (6, .bool false), (7, .slice A130 n131 c132), (8, .int .i64 (overE a b))] ⟨rfl, rfl, rfl, rfl, rfl, rfl, trivial⟩ ?_
    refine wc_seq ?_
    refine wc_region ?_
    refine wl_op rfl (op_move rfl rfl ?_)
    refine wl_op rfl (op_move rfl rfl ?_)
    have hB37 : Below w.heap.size w W35 := (below_step hB29 hE36)
    refine wl_op rfl (op_call ent16 rfl (rOver_spec (hs.ext (flat_lifts _) hB37) (hs2.ext (flat_lifts _) hB37) (by omega) (by omega)) rfl ?_)
    rintro _ W43 ⟨A138, n139, c140, rfl, hp41, hp42, hE44⟩
    refine wl_op rfl (op_move rfl rfl ?_)
    refine wl_op rfl (op_extract (v := .slice A138 n139 c140) rfl rfl rfl ?_)
    refine wl_op rfl (op_extract (v := .int .i64 (overE a b)) rfl rfl rfl ?_)
    refine wl_op rfl (op_assign rfl rfl ?_)
    refine wl_op rfl (op_assign rfl rfl ?_)
    refine (wl_done (then_norm ?_))
    refine WC.sub [(0, .slice A n c), (1, .slice A2 n2 c2), (2, .slice A3 n3 c3), (6, .bool false), (7, .slice A130 n131 c132), (8, .int .i64 (overE a b)), (9, .slice A138 n139 c140), (10, .int .i64 (overE a b))] ⟨rfl, rfl, rfl, rfl, rfl, rfl, rfl, rfl, trivial⟩ ?_
    refine wc_seq ?_
    refine wc_region ?_
    refine wl_op rfl (op_move rfl rfl ?_)
    refine wl_op rfl (op_move rfl rfl ?_)
    refine wl_op rfl (op_move rfl rfl ?_)
    refine wl_op rfl (op_buildSlice (cs := #[.slice A n c, .slice A2 n2 c2, .slice A3 n3 c3]) (e := 22) rfl (fun w => by kernel_rfl) rfl ?_)
    intro W45 b46 hN47
    have hb48 : W45.heap[b46]? = some (.cells #[.slice A n c, .slice A2 n2 c2, .slice A3 n3 c3] 22 (0, 0)) := hN47.blk
    have hB49 : Below w.heap.size w W45 := (below_new (below_step hB37 hE44) hN47)
    refine wl_op rfl (op_call ent17 rfl (Effective_spec (rdl3 hb48 (hs.ext (flat_lifts _) hB49) (hs2.ext (flat_lifts _) hB49) (hs3.ext (flat_lifts _) hB49) hc hc2 hc3 hsh.1 hsh.2.1 hsh.2.2) (by omega) (l := [a, b, d])) rfl ?_)
    rintro _ W55 ⟨A150, n151, c152, rfl, hp53, hp54, hE56⟩
    refine wl_op rfl (op_move rfl rfl ?_)
    refine wl_op rfl (op_extract (v := .slice A150 n151 c152) rfl rfl rfl ?_)
    refine wl_op rfl (op_extract (v := .int .i64 (effE [a, b, d])) rfl rfl rfl ?_)
    refine wl_op rfl (op_assign rfl rfl ?_)
    refine wl_op rfl (op_assign rfl rfl ?_)
    refine (wl_done (then_norm ?_))
    refine WC.sub [(0, .slice A n c), (1, .slice A2 n2 c2), (2, .slice A3 n3 c3), (6, .bool false), (7, .slice A130 n131 c132), (8, .int .i64 (overE a b)), (9, .slice A138 n139 c140), (10, .int .i64 (overE a b)), (11, .slice A150 n151 c152), (12, .int .i64 (effE [a, b, d]))] ⟨rfl, rfl, rfl, rfl, rfl, rfl, rfl, rfl, rfl, rfl, trivial⟩ ?_
    refine wc_seq ?_
    refine wc_region ?_
    refine wl_op rfl (op_move rfl rfl ?_)
    refine wl_op rfl (op_move rfl rfl ?_)
    refine wl_op rfl (op_move rfl rfl ?_)
    refine wl_op rfl (op_buildSlice (cs := #[.slice A n c, .slice A2 n2 c2, .slice A3 n3 c3]) (e := 22) rfl (fun w => by kernel_rfl) rfl ?_)
    intro W57 b58 hN59
    have hb60 : W57.heap[b58]? = some (.cells #[.slice A n c, .slice A2 n2 c2, .slice A3 n3 c3] 22 (0, 0)) := hN59.blk
    have hB61 : Below w.heap.size w W57 := (below_new (below_step hB49 hE56) hN59)
    refine wl_op rfl (op_call ent18 rfl (rEffective_spec (rdl3 hb60 (hs.ext (flat_lifts _) hB61) (hs2.ext (flat_lifts _) hB61) (hs3.ext (flat_lifts _) hB61) hc hc2 hc3 hsh.1 hsh.2.1 hsh.2.2) (by omega) (l := [a, b, d])) rfl ?_)
    rintro _ W67 ⟨A162, n163, c164, rfl, hp65, hp66, hE68⟩
    refine wl_op rfl (op_move rfl rfl ?_)
    refine wl_op rfl (op_extract (v := .slice A162 n163 c164) rfl rfl rfl ?_)
    refine wl_op rfl (op_extract (v := .int .i64 (effE [a, b, d])) rfl rfl rfl ?_)
    refine wl_op rfl (op_assign rfl rfl ?_)
    refine wl_op rfl (op_assign rfl rfl ?_)
    refine (wl_done (then_norm ?_))
    refine WC.sub [(0, .slice A n c), (1, .slice A2 n2 c2), (2, .slice A3 n3 c3), (6, .bool false), (7, .slice A130 n131 c132), (8, .int .i64 (overE a b)), (9, .slice A138 n139 c140), (10, .int .i64 (overE a b)), (11, .slice A150 n151 c152), (12, .int .i64 (effE [a, b, d])), (13, .slice A162 n163 c164), (14, .int .i64 (effE [a, b, d]))] ⟨rfl, rfl, rfl, rfl, rfl, rfl, rfl, rfl, rfl, rfl, rfl, rfl, trivial⟩ ?_
    refine wc_seq ?_
    refine wc_region ?_
    refine wl_op rfl (op_move rfl rfl ?_)
    refine wl_op rfl (op_move rfl rfl ?_)
    have hB69 : Below w.heap.size w W67 := (below_step hB61 hE68)
    refine wl_op rfl (op_call ent19 rfl (Same_spec (hs.ext (flat_lifts _) hB69) (hs2.ext (flat_lifts _) hB69) (by omega) (by omega)) rfl ?_)
    rintro _ W70 ⟨rfl, hE71⟩
    refine wl_op rfl (op_move rfl rfl ?_)
    refine wl_op rfl (op_extract (v := .bool (sameR a b)) rfl rfl rfl ?_)
    refine wl_op rfl (op_extract (v := .int .i64 (overE a b)) rfl rfl rfl ?_)
    refine wl_op rfl (op_assign rfl rfl ?_)
    refine wl_op rfl (op_assign rfl rfl ?_)
    refine (wl_done (then_norm ?_))
    refine WC.sub [(0, .slice A n c), (1, .slice A2 n2 c2), (2, .slice A3 n3 c3), (6, .bool false), (7, .slice A130 n131 c132), (8, .int .i64 (overE a b)), (9, .slice A138 n139 c140), (10, .int .i64 (overE a b)), (11, .slice A150 n151 c152), (12, .int .i64 (effE [a, b, d])), (13, .slice A162 n163 c164), (14, .int .i64 (effE [a, b, d])), (15, .bool (sameR a b)), (16, .int .i64 (overE a b))] ⟨rfl, rfl, rfl, rfl, rfl, rfl, rfl, rfl, rfl, rfl, rfl, rfl, rfl, rfl, trivial⟩ ?_
    refine wc_seq ?_
    refine wc_region ?_
    refine wl_op rfl (op_move rfl rfl ?_)
    refine wl_op rfl (op_move rfl rfl ?_)
    have hB72 : Below w.heap.size w W70 := (below_step hB69 hE71)
    refine wl_op rfl (op_call ent20 rfl (rSame_spec (hs.ext (flat_lifts _) hB72) (hs2.ext (flat_lifts _) hB72)) rfl ?_)
    rintro _ W73 ⟨rfl, hE74⟩
    refine wl_op rfl (op_move rfl rfl ?_)
    refine wl_op rfl (op_extract (v := .bool (rSameR a b)) rfl rfl rfl ?_)
    refine wl_op rfl (op_extract (v := .int .i64 (overE a b)) rfl rfl rfl ?_)
    refine wl_op rfl (op_assign rfl rfl ?_)
    refine wl_op rfl (op_assign rfl rfl ?_)
    refine (wl_done (then_norm ?_))
    refine WC.sub [(0, .slice A n c), (1, .slice A2 n2 c2), (2, .slice A3 n3 c3), (6, .bool false), (7, .slice A130 n131 c132), (8, .int .i64 (overE a b)), (9, .slice A138 n139 c140), (10, .int .i64 (overE a b)), (11, .slice A150 n151 c152), (12, .int .i64 (effE [a, b, d])), (13, .slice A162 n163 c164), (14, .int .i64 (effE [a, b, d])), (15, .bool (sameR a b)), (16, .int .i64 (overE a b)), (17, .bool (rSameR a b)), (18, .int .i64 (overE a b))] ⟨rfl, rfl, rfl, rfl, rfl, rfl, rfl, rfl, rfl, rfl, rfl, rfl, rfl, rfl, rfl, rfl, trivial⟩ ?_
    refine wc_seq ?_
    refine wc_seq ?_
    refine wc_text [(0, .slice A n c), (1, .slice A2 n2 c2), (2, .slice A3 n3 c3), (6, .bool false), (7, .slice A130 n131 c132), (8, .int .i64 (overE a b)), (9, .slice A138 n139 c140), (10, .int .i64 (overE a b)), (11, .slice A150 n151 c152), (12, .int .i64 (effE [a, b, d])), (13, .slice A162 n163 c164), (14, .int .i64 (effE [a, b, d])), (15, .bool (sameR a b)), (16, .int .i64 (overE a b)), (17, .bool (rSameR a b)), (18, .int .i64 (overE a b))] ⟨rfl, rfl, rfl, rfl, rfl, rfl, rfl, rfl, rfl, rfl, rfl, rfl, rfl, rfl, rfl, rfl, trivial⟩ [fun v _ => v = .slice A130 n131 c132, fun v _ => v = .slice A138 n139 c140, fun v _ => v = .bool (decide ((overR a b) = (rOverR a b))), fun v _ => v = .bool (!(decide ((overR a b) = (rOverR a b)))), fun v _ => v = .bool (!(decide ((overR a b) = (rOverR a b)))), fun v _ => v = (bif (!(!(decide ((overR a b) = (rOverR a b))))) then (.int .i64 (overE a b)) else undef), fun v _ => v = (bif (!(!(decide ((overR a b) = (rOverR a b))))) then (.int .i64 (overE a b)) else undef), fun v _ => v = (bif (!(!(decide ((overR a b) = (rOverR a b))))) then (.bool (!decide (overE a b = overE a b))) else undef), fun v _ => v = .bool ((!(decide ((overR a b) = (rOverR a b)))) || (!decide (overE a b = overE a b))), fun v _ => v = .bool ((!(decide ((overR a b) = (rOverR a b)))) || (!decide (overE a b = overE a b))), fun v _ => v = (bif (!((!(decide ((overR a b) = (rOverR a b)))) || (!decide (overE a b = overE a b)))) then (.slice A150 n151 c152) else undef), fun v _ => v = (bif (!((!(decide ((overR a b) = (rOverR a b)))) || (!decide (overE a b = overE a b)))) then (.slice A162 n163 c164) else undef), fun v _ => v = (bif (!((!(decide ((overR a b) = (rOverR a b)))) || (!decide (overE a b = overE a b)))) then (.bool (decide ((effR [a, b, d]) = (rEffR [a, b, d])))) else undef), fun v _ => v = (bif (!((!(decide ((overR a b) = (rOverR a b)))) || (!decide (overE a b = overE a b)))) then (.bool (!(decide ((effR [a, b, d]) = (rEffR [a, b, d]))))) else undef), fun v _ => v = .bool (((!(decide ((overR a b) = (rOverR a b)))) || (!decide (overE a b = overE a b))) || (!(decide ((effR [a, b, d]) = (rEffR [a, b, d]))))), fun v _ => v = .bool (((!(decide ((overR a b) = (rOverR a b)))) || (!decide (overE a b = overE a b))) || (!(decide ((effR [a, b, d]) = (rEffR [a, b, d]))))), fun v _ => v = (bif (!(((!(decide ((overR a b) = (rOverR a b)))) || (!decide (overE a b = overE a b))) || (!(decide ((effR [a, b, d]) = (rEffR [a, b, d])))))) then (.int .i64 (effE [a, b, d])) else undef), fun v _ => v = (bif (!(((!(decide ((overR a b) = (rOverR a b)))) || (!decide (overE a b = overE a b))) || (!(decide ((effR [a, b, d]) = (rEffR [a, b, d])))))) then (.int .i64 (effE [a, b, d])) else undef), fun v _ => v = (bif (!(((!(decide ((overR a b) = (rOverR a b)))) || (!decide (overE a b = overE a b))) || (!(decide ((effR [a, b, d]) = (rEffR [a, b, d])))))) then (.bool (!decide (effE [a, b, d] = effE [a, b, d]))) else undef), fun v _ => v = .bool ((((!(decide ((overR a b) = (rOverR a b)))) || (!decide (overE a b = overE a b))) || (!(decide ((effR [a, b, d]) = (rEffR [a, b, d]))))) || (!decide (effE [a, b, d] = effE [a, b, d]))), fun v _ => v = .bool ((((!(decide ((overR a b) = (rOverR a b)))) || (!decide (overE a b = overE a b))) || (!(decide ((effR [a, b, d]) = (rEffR [a, b, d]))))) || (!decide (effE [a, b, d] = effE [a, b, d]))), fun v _ => v = (bif (!((((!(decide ((overR a b) = (rOverR a b)))) || (!decide (overE a b = overE a b))) || (!(decide ((effR [a, b, d]) = (rEffR [a, b, d]))))) || (!decide (effE [a, b, d] = effE [a, b, d])))) then (.bool (sameR a b)) else undef), fun v _ => v = (bif (!((((!(decide ((overR a b) = (rOverR a b)))) || (!decide (overE a b = overE a b))) || (!(decide ((effR [a, b, d]) = (rEffR [a, b, d]))))) || (!decide (effE [a, b, d] = effE [a, b, d])))) then (.bool (rSameR a b)) else undef), fun v _ => v = (bif (!((((!(decide ((overR a b) = (rOverR a b)))) || (!decide (overE a b = overE a b))) || (!(decide ((effR [a, b, d]) = (rEffR [a, b, d]))))) || (!decide (effE [a, b, d] = effE [a, b, d])))) then (.bool (!decide ((sameR a b) = (rSameR a b)))) else undef), fun v _ => v = .bool (((((!(decide ((overR a b) = (rOverR a b)))) || (!decide (overE a b = overE a b))) || (!(decide ((effR [a, b, d]) = (rEffR [a, b, d]))))) || (!decide (effE [a, b, d] = effE [a, b, d]))) || (!decide ((sameR a b) = (rSameR a b)))), fun v _ => v = .bool (((((!(decide ((overR a b) = (rOverR a b)))) || (!decide (overE a b = overE a b))) || (!(decide ((effR [a, b, d]) = (rEffR [a, b, d]))))) || (!decide (effE [a, b, d] = effE [a, b, d]))) || (!decide ((sameR a b) = (rSameR a b)))), fun v _ => v = (bif (!(((((!(decide ((overR a b) = (rOverR a b)))) || (!decide (overE a b = overE a b))) || (!(decide ((effR [a, b, d]) = (rEffR [a, b, d]))))) || (!decide (effE [a, b, d] = effE [a, b, d]))) || (!decide ((sameR a b) = (rSameR a b))))) then (.int .i64 (overE a b)) else undef), fun v _ => v = (bif (!(((((!(decide ((overR a b) = (rOverR a b)))) || (!decide (overE a b = overE a b))) || (!(decide ((effR [a, b, d]) = (rEffR [a, b, d]))))) || (!decide (effE [a, b, d] = effE [a, b, d]))) || (!decide ((sameR a b) = (rSameR a b))))) then (.int .i64 (overE a b)) else undef), fun v _ => v = (bif (!(((((!(decide ((overR a b) = (rOverR a b)))) || (!decide (overE a b = overE a b))) || (!(decide ((effR [a, b, d]) = (rEffR [a, b, d]))))) || (!decide (effE [a, b, d] = effE [a, b, d]))) || (!decide ((sameR a b) = (rSameR a b))))) then (.bool (!decide (overE a b = overE a b))) else undef), fun v _ => v = .bool ((((((!(decide ((overR a b) = (rOverR a b)))) || (!decide (overE a b = overE a b))) || (!(decide ((effR [a, b, d]) = (rEffR [a, b, d]))))) || (!decide (effE [a, b, d] = effE [a, b, d]))) || (!decide ((sameR a b) = (rSameR a b)))) || (!decide (overE a b = overE a b)))] [[], [], [0, 1], [2], [3], [4], [4], [4, 5, 6], [4, 7], [8], [9], [9], [9, 10, 11], [9, 12], [9, 13], [14], [15], [15], [15, 16, 17], [15, 18], [19], [20], [20], [20, 21, 22], [20, 23], [24], [25], [25], [25, 26, 27], [25, 28]] [29] rfl rfl rfl ⟨fun _ _ _ _ h => h, fun _ _ _ _ h => h, fun _ _ _ _ h => h, fun _ _ _ _ h => h, fun _ _ _ _ h => h, fun _ _ _ _ h => h, fun _ _ _ _ h => h, fun _ _ _ _ h => h, fun _ _ _ _ h => h, fun _ _ _ _ h => h, fun _ _ _ _ h => h, fun _ _ _ _ h => h, fun _ _ _ _ h => h, fun _ _ _ _ h => h, fun _ _ _ _ h => h, fun _ _ _ _ h => h, fun _ _ _ _ h => h, fun _ _ _ _ h => h, fun _ _ _ _ h => h, fun _ _ _ _ h => h, fun _ _ _ _ h => h, fun _ _ _ _ h => h, fun _ _ _ _ h => h, fun _ _ _ _ h => h, fun _ _ _ _ h => h, fun _ _ _ _ h => h, fun _ _ _ _ h => h, fun _ _ _ _ h => h, fun _ _ _ _ h => h, fun _ _ _ _ h => h, trivial⟩ ⟨?_, ?_, ?_, ?_, ?_, ?_, ?_, ?_, ?_, ?_, ?_, ?_, ?_, ?_, ?_, ?_, ?_, ?_, ?_, ?_, ?_, ?_, ?_, ?_, ?_, ?_, ?_, ?_, ?_, ?_, trivial⟩ ?_
    · intro W75 hW76
      refine gather_nil ?_
      refine opg_none rfl ?_
      exact op_move rfl rfl ⟨told rfl rfl rfl, (Below.refl _ _)⟩
    · intro W75 hW76
      refine gather_nil ?_
      refine opg_none rfl ?_
      exact op_move rfl rfl ⟨told rfl rfl rfl, (Below.refl _ _)⟩
    · intro W75 hW76
      rintro _ rfl
      rintro _ rfl
      refine gather_nil ?_
      refine opg_none rfl ?_
      have hB81 : Below W35.heap.size W35 W75 := (below_step (below_step (below_step (below_step (below_new (below_step (below_new (below_step (Below.refl _ _) hE44) hN47) hE56) hN59) hE68) hE71) hE74) hW76)
      have hB82 : Below W43.heap.size W43 W75 := (below_step (below_step (below_step (below_step (below_new (below_step (below_new (Below.refl _ _) hN47) hE56) hN59) hE68) hE71) hE74) hW76)
      refine op_call ent12 rfl (same_spec (hp33.ext (flat_lifts _) hB81) (hp41.ext (flat_lifts _) hB82)) rfl ?_
      rintro _ W83 ⟨rfl, hE84⟩
      exact ⟨told rfl rfl rfl, hE84⟩
    · intro W75 hW76
      rintro _ rfl
      refine gather_nil ?_
      refine opg_none rfl ?_
      exact op_not rfl rfl ⟨told rfl rfl rfl, (Below.refl _ _)⟩
    · intro W75 hW76
      rintro _ rfl
      refine gather_nil ?_
      refine opg_none rfl ?_
      exact op_move rfl rfl ⟨told rfl rfl rfl, (Below.refl _ _)⟩
    · intro W75 hW76
      rintro _ rfl
      refine gather_nil ?_
      refine opg_f1 rfl rfl (fun hg85 => ?_) (fun h => by rw [h, cond_false])
      exact op_move rfl rfl ⟨told rfl rfl (by rw [hg85, cond_true]), (Below.refl _ _)⟩
    · intro W75 hW76
      rintro _ rfl
      refine gather_nil ?_
      refine opg_f1 rfl rfl (fun hg86 => ?_) (fun h => by rw [h, cond_false])
      exact op_move rfl rfl ⟨told rfl rfl (by rw [hg86, cond_true]), (Below.refl _ _)⟩
    · intro W75 hW76
      rintro _ rfl
      intro v87 (hv88 : v87 = bif (!(!(decide ((overR a b) = (rOverR a b))))) then (.int .i64 (overE a b)) else undef)
      intro v89 (hv90 : v89 = bif (!(!(decide ((overR a b) = (rOverR a b))))) then (.int .i64 (overE a b)) else undef)
      refine gather_nil ?_
      refine opg_f1 rfl rfl (fun hg91 => ?_) (fun h => by rw [h, cond_false])
      obtain rfl : v87 = .int .i64 (overE a b) := by rw [hv88, hg91, cond_true]
      obtain rfl : v89 = .int .i64 (overE a b) := by rw [hv90, hg91, cond_true]
      exact op_neq rfl rfl rfl ⟨told rfl rfl (by rw [hg91, cond_true]), (Below.refl _ _)⟩
    · intro W75 hW76
      rintro _ rfl
      intro v92 (hv93 : v92 = bif (!(!(decide ((overR a b) = (rOverR a b))))) then (.bool (!decide (overE a b = overE a b))) else undef)
      refine gather_nil ?_
      refine opg_none rfl ?_
      exact op_or rfl rfl rfl (fun h => by rw [hv93, (not_i h), cond_true]) rfl ⟨told rfl rfl rfl, (Below.refl _ _)⟩
    · intro W75 hW76
      rintro _ rfl
      refine gather_nil ?_
      refine opg_none rfl ?_
      exact op_move rfl rfl ⟨told rfl rfl rfl, (Below.refl _ _)⟩
    · intro W75 hW76
      rintro _ rfl
      refine gather_nil ?_
      refine opg_f1 rfl rfl (fun hg94 => ?_) (fun h => by rw [h, cond_false])
      exact op_move rfl rfl ⟨told rfl rfl (by rw [hg94, cond_true]), (Below.refl _ _)⟩
    · intro W75 hW76
      rintro _ rfl
      refine gather_nil ?_
      refine opg_f1 rfl rfl (fun hg95 => ?_) (fun h => by rw [h, cond_false])
      exact op_move rfl rfl ⟨told rfl rfl (by rw [hg95, cond_true]), (Below.refl _ _)⟩
    · intro W75 hW76
      rintro _ rfl
      intro v96 (hv97 : v96 = bif (!((!(decide ((overR a b) = (rOverR a b)))) || (!decide (overE a b = overE a b)))) then (.slice A150 n151 c152) else undef)
      intro v98 (hv99 : v98 = bif (!((!(decide ((overR a b) = (rOverR a b)))) || (!decide (overE a b = overE a b)))) then (.slice A162 n163 c164) else undef)
      refine gather_nil ?_
      refine opg_f1 rfl rfl (fun hg100 => ?_) (fun h => by rw [h, cond_false])
      obtain rfl : v96 = .slice A150 n151 c152 := by rw [hv97, hg100, cond_true]
      obtain rfl : v98 = .slice A162 n163 c164 := by rw [hv99, hg100, cond_true]
      have hB101 : Below W55.heap.size W55 W75 := (below_step (below_step (below_step (below_step (below_new (Below.refl _ _) hN59) hE68) hE71) hE74) hW76)
      have hB102 : Below W67.heap.size W67 W75 := (below_step (below_step (below_step (Below.refl _ _) hE71) hE74) hW76)
      refine op_call ent12 rfl (same_spec (hp53.ext (flat_lifts _) hB101) (hp65.ext (flat_lifts _) hB102)) rfl ?_
      rintro _ W103 ⟨rfl, hE104⟩
      exact ⟨told rfl rfl (by rw [hg100, cond_true]), hE104⟩
    · intro W75 hW76
      rintro _ rfl
      intro v105 (hv106 : v105 = bif (!((!(decide ((overR a b) = (rOverR a b)))) || (!decide (overE a b = overE a b)))) then (.bool (decide ((effR [a, b, d]) = (rEffR [a, b, d])))) else undef)
      refine gather_nil ?_
      refine opg_f1 rfl rfl (fun hg107 => ?_) (fun h => by rw [h, cond_false])
      obtain rfl : v105 = .bool (decide ((effR [a, b, d]) = (rEffR [a, b, d]))) := by rw [hv106, hg107, cond_true]
      exact op_not rfl rfl ⟨told rfl rfl (by rw [hg107, cond_true]), (Below.refl _ _)⟩
    · intro W75 hW76
      rintro _ rfl
      intro v108 (hv109 : v108 = bif (!((!(decide ((overR a b) = (rOverR a b)))) || (!decide (overE a b = overE a b)))) then (.bool (!(decide ((effR [a, b, d]) = (rEffR [a, b, d]))))) else undef)
      refine gather_nil ?_
      refine opg_none rfl ?_
      exact op_or rfl rfl rfl (fun h => by rw [hv109, (not_i h), cond_true]) rfl ⟨told rfl rfl rfl, (Below.refl _ _)⟩
    · intro W75 hW76
      rintro _ rfl
      refine gather_nil ?_
      refine opg_none rfl ?_
      exact op_move rfl rfl ⟨told rfl rfl rfl, (Below.refl _ _)⟩
    · intro W75 hW76
      rintro _ rfl
      refine gather_nil ?_
      refine opg_f1 rfl rfl (fun hg110 => ?_) (fun h => by rw [h, cond_false])
      exact op_move rfl rfl ⟨told rfl rfl (by rw [hg110, cond_true]), (Below.refl _ _)⟩
    · intro W75 hW76
      rintro _ rfl
      refine gather_nil ?_
      refine opg_f1 rfl rfl (fun hg111 => ?_) (fun h => by rw [h, cond_false])
      exact op_move rfl rfl ⟨told rfl rfl (by rw [hg111, cond_true]), (Below.refl _ _)⟩
    · intro W75 hW76
      rintro _ rfl
      intro v112 (hv113 : v112 = bif (!(((!(decide ((overR a b) = (rOverR a b)))) || (!decide (overE a b = overE a b))) || (!(decide ((effR [a, b, d]) = (rEffR [a, b, d])))))) then (.int .i64 (effE [a, b, d])) else undef)
      intro v114 (hv115 : v114 = bif (!(((!(decide ((overR a b) = (rOverR a b)))) || (!decide (overE a b = overE a b))) || (!(decide ((effR [a, b, d]) = (rEffR [a, b, d])))))) then (.int .i64 (effE [a, b, d])) else undef)
      refine gather_nil ?_
      refine opg_f1 rfl rfl (fun hg116 => ?_) (fun h => by rw [h, cond_false])
      obtain rfl : v112 = .int .i64 (effE [a, b, d]) := by rw [hv113, hg116, cond_true]
      obtain rfl : v114 = .int .i64 (effE [a, b, d]) := by rw [hv115, hg116, cond_true]
      exact op_neq rfl rfl rfl ⟨told rfl rfl (by rw [hg116, cond_true]), (Below.refl _ _)⟩
    · intro W75 hW76
      rintro _ rfl
      intro v117 (hv118 : v117 = bif (!(((!(decide ((overR a b) = (rOverR a b)))) || (!decide (overE a b = overE a b))) || (!(decide ((effR [a, b, d]) = (rEffR [a, b, d])))))) then (.bool (!decide (effE [a, b, d] = effE [a, b, d]))) else undef)
      refine gather_nil ?_
      refine opg_none rfl ?_
      exact op_or rfl rfl rfl (fun h => by rw [hv118, (not_i h), cond_true]) rfl ⟨told rfl rfl rfl, (Below.refl _ _)⟩
    · intro W75 hW76
      rintro _ rfl
      refine gather_nil ?_
      refine opg_none rfl ?_
      exact op_move rfl rfl ⟨told rfl rfl rfl, (Below.refl _ _)⟩
    · intro W75 hW76
      rintro _ rfl
      refine gather_nil ?_
      refine opg_f1 rfl rfl (fun hg119 => ?_) (fun h => by rw [h, cond_false])
      exact op_move rfl rfl ⟨told rfl rfl (by rw [hg119, cond_true]), (Below.refl _ _)⟩
    · intro W75 hW76
      rintro _ rfl
      refine gather_nil ?_
      refine opg_f1 rfl rfl (fun hg120 => ?_) (fun h => by rw [h, cond_false])
      exact op_move rfl rfl ⟨told rfl rfl (by rw [hg120, cond_true]), (Below.refl _ _)⟩
    · intro W75 hW76
      rintro _ rfl
      intro v121 (hv122 : v121 = bif (!((((!(decide ((overR a b) = (rOverR a b)))) || (!decide (overE a b = overE a b))) || (!(decide ((effR [a, b, d]) = (rEffR [a, b, d]))))) || (!decide (effE [a, b, d] = effE [a, b, d])))) then (.bool (sameR a b)) else undef)
      intro v123 (hv124 : v123 = bif (!((((!(decide ((overR a b) = (rOverR a b)))) || (!decide (overE a b = overE a b))) || (!(decide ((effR [a, b, d]) = (rEffR [a, b, d]))))) || (!decide (effE [a, b, d] = effE [a, b, d])))) then (.bool (rSameR a b)) else undef)
      refine gather_nil ?_
      refine opg_f1 rfl rfl (fun hg125 => ?_) (fun h => by rw [h, cond_false])
      obtain rfl : v121 = .bool (sameR a b) := by rw [hv122, hg125, cond_true]
      obtain rfl : v123 = .bool (rSameR a b) := by rw [hv124, hg125, cond_true]
      exact op_neqb und4 rfl rfl rfl ⟨told rfl rfl (by rw [hg125, cond_true]), (Below.refl _ _)⟩
    · intro W75 hW76
      rintro _ rfl
      intro v126 (hv127 : v126 = bif (!((((!(decide ((overR a b) = (rOverR a b)))) || (!decide (overE a b = overE a b))) || (!(decide ((effR [a, b, d]) = (rEffR [a, b, d]))))) || (!decide (effE [a, b, d] = effE [a, b, d])))) then (.bool (!decide ((sameR a b) = (rSameR a b)))) else undef)
      refine gather_nil ?_
      refine opg_none rfl ?_
      exact op_or rfl rfl rfl (fun h => by rw [hv127, (not_i h), cond_true]) rfl ⟨told rfl rfl rfl, (Below.refl _ _)⟩
    · intro W75 hW76
      rintro _ rfl
      refine gather_nil ?_
      refine opg_none rfl ?_
      exact op_move rfl rfl ⟨told rfl rfl rfl, (Below.refl _ _)⟩
    · intro W75 hW76
      rintro _ rfl
      refine gather_nil ?_
      refine opg_f1 rfl rfl (fun hg128 => ?_) (fun h => by rw [h, cond_false])
      exact op_move rfl rfl ⟨told rfl rfl (by rw [hg128, cond_true]), (Below.refl _ _)⟩
    · intro W75 hW76
      rintro _ rfl
      refine gather_nil ?_
      refine opg_f1 rfl rfl (fun hg129 => ?_) (fun h => by rw [h, cond_false])
      exact op_move rfl rfl ⟨told rfl rfl (by rw [hg129, cond_true]), (Below.refl _ _)⟩
    · intro W75 hW76
      rintro _ rfl
      intro v130 (hv131 : v130 = bif (!(((((!(decide ((overR a b) = (rOverR a b)))) || (!decide (overE a b = overE a b))) || (!(decide ((effR [a, b, d]) = (rEffR [a, b, d]))))) || (!decide (effE [a, b, d] = effE [a, b, d]))) || (!decide ((sameR a b) = (rSameR a b))))) then (.int .i64 (overE a b)) else undef)
      intro v132 (hv133 : v132 = bif (!(((((!(decide ((overR a b) = (rOverR a b)))) || (!decide (overE a b = overE a b))) || (!(decide ((effR [a, b, d]) = (rEffR [a, b, d]))))) || (!decide (effE [a, b, d] = effE [a, b, d]))) || (!decide ((sameR a b) = (rSameR a b))))) then (.int .i64 (overE a b)) else undef)
      refine gather_nil ?_
      refine opg_f1 rfl rfl (fun hg134 => ?_) (fun h => by rw [h, cond_false])
      obtain rfl : v130 = .int .i64 (overE a b) := by rw [hv131, hg134, cond_true]
      obtain rfl : v132 = .int .i64 (overE a b) := by rw [hv133, hg134, cond_true]
      exact op_neq rfl rfl rfl ⟨told rfl rfl (by rw [hg134, cond_true]), (Below.refl _ _)⟩
    · intro W75 hW76
      rintro _ rfl
      intro v135 (hv136 : v135 = bif (!(((((!(decide ((overR a b) = (rOverR a b)))) || (!decide (overE a b = overE a b))) || (!(decide ((effR [a, b, d]) = (rEffR [a, b, d]))))) || (!decide (effE [a, b, d] = effE [a, b, d]))) || (!decide ((sameR a b) = (rSameR a b))))) then (.bool (!decide (overE a b = overE a b))) else undef)
      refine gather_nil ?_
      refine opg_none rfl ?_
      exact op_or rfl rfl rfl (fun h => by rw [hv136, (not_i h), cond_true]) rfl ⟨told rfl rfl rfl, (Below.refl _ _)⟩
    intro W137 hW138
    rintro _ rfl
    refine gather_nil ?_
    refine (then_norm ?_)
    refine WC.sub [(0, .slice A n c), (1, .slice A2 n2 c2), (2, .slice A3 n3 c3), (6, .bool false), (7, .slice A130 n131 c132), (11, .slice A150 n151 c152), (12, .int .i64 (effE [a, b, d])), (15, .bool (sameR a b)), (105, .bool ((((((!(decide ((overR a b) = (rOverR a b)))) || (!decide (overE a b = overE a b))) || (!(decide ((effR [a, b, d]) = (rEffR [a, b, d]))))) || (!decide (effE [a, b, d] = effE [a, b, d]))) || (!decide ((sameR a b) = (rSameR a b)))) || (!decide (overE a b = overE a b))))] ⟨rfl, rfl, rfl, rfl, rfl, rfl, rfl, rfl, rfl, trivial⟩ ?_
    refine wc_cond (b := (((((!(decide ((overR a b) = (rOverR a b)))) || (!decide (overE a b = overE a b))) || (!(decide ((effR [a, b, d]) = (rEffR [a, b, d]))))) || (!decide (effE [a, b, d] = effE [a, b, d]))) || (!decide ((sameR a b) = (rSameR a b)))) || (!decide (overE a b = overE a b))) rfl (fun hc139 => ?_) (fun hc139 => ?_)
    · exfalso
      rw [over_cmp a b d] at hc139
      cases hc139
    · refine wc_skip ?_
      refine (then_norm ?_)
      refine wc_seq ?_
      refine wc_seq ?_
      refine wc_region ?_
      refine wl_op rfl (op_move rfl rfl ?_)
      refine wl_op rfl (op_neq rfl rfl rfl ?_)
      refine (wl_done (then_norm ?_))
      refine wc_cond (b := !decide (effE [a, b, d] = 0)) rfl (fun hc140 => ?_) (fun hc140 => ?_)
      · have hc140r := hc140
        have hc140 := of_decide_eq_false (not_t hc140)
        refine wc_seq ?_
        refine wc_region ?_
        refine wl_op rfl (op_call ent7 rfl (awake_spec) rfl ?_)
        rintro _ W141 ⟨rfl, hE142⟩
        refine wl_op rfl (op_assign rfl rfl ?_)
        refine (wl_done (then_norm ?_))
        refine wc_ret ?_
        refine (then_ret ?_)
        have hB143 : Below w.heap.size w W141 := (below_step (below_step (below_step hB72 hE74) hW138) hE142)
        refine ⟨[_], ⟨rfl, trivial⟩, ⟨?_, hB143⟩⟩
        exact rfl
      · have hc140r := hc140
        have hc140 := of_decide_eq_true (not_f hc140)
        obtain ⟨hva, hvb, hvd⟩ := effE_0 hc140
        refine wc_skip ?_
        refine (then_norm ?_)
        refine wc_seq ?_
        refine wc_region ?_
        refine wl_op rfl (op_move rfl rfl ?_)
        refine wl_op rfl (op_move rfl rfl ?_)
        have hB144 : Below W35.heap.size W35 W137 := (below_step (below_step (below_step (below_step (below_new (below_step (below_new (below_step (Below.refl _ _) hE44) hN47) hE56) hN59) hE68) hE71) hE74) hW138)
        have hB145 : Below w.heap.size w W137 := (below_step (below_step hB72 hE74) hW138)
        refine wl_op rfl (op_call ent15 rfl (Over_spec (hp33.ext (flat_lifts _) hB144) (hs3.ext (flat_lifts _) hB145) (by omega) (by omega) (by omega) (by omega)) rfl ?_)
        rintro _ W151 ⟨A1146, n1147, c1148, rfl, hp149, hp150, hE152⟩
        have := hp149.len
        refine wl_op rfl (op_move rfl rfl ?_)
        refine wl_op rfl (op_extract (v := .slice A1146 n1147 c1148) rfl rfl rfl ?_)
        refine wl_op rfl (op_extract (v := .int .i64 (overE (overR a b) d)) rfl rfl rfl ?_)
        refine wl_op rfl (op_assign rfl rfl ?_)
        refine wl_op rfl (op_assign rfl rfl ?_)
        refine (wl_done (then_norm ?_))
        refine WC.sub [(0, .slice A n c), (1, .slice A2 n2 c2), (2, .slice A3 n3 c3), (6, .bool false), (11, .slice A150 n151 c152), (15, .bool (sameR a b)), (19, .slice A1146 n1147 c1148)] ⟨rfl, rfl, rfl, rfl, rfl, rfl, rfl, trivial⟩ ?_
        refine wc_seq ?_
        refine wc_region ?_
        refine wl_op rfl (op_move rfl rfl ?_)
        refine wl_op rfl (op_move rfl rfl ?_)
        have hB153 : Below w.heap.size w W151 := (below_step hB145 hE152)
        refine wl_op rfl (op_call ent15 rfl (Over_spec (hs2.ext (flat_lifts _) hB153) (hs3.ext (flat_lifts _) hB153) (by omega) (by omega) (by omega) (by omega)) rfl ?_)
        rintro _ W159 ⟨A1154, n1155, c1156, rfl, hp157, hp158, hE160⟩
        have := hp157.len
        refine wl_op rfl (op_move rfl rfl ?_)
        refine wl_op rfl (op_extract (v := .slice A1154 n1155 c1156) rfl rfl rfl ?_)
        refine wl_op rfl (op_extract (v := .int .i64 (overE b d)) rfl rfl rfl ?_)
        refine wl_op rfl (op_assign rfl rfl ?_)
        refine wl_op rfl (op_assign rfl rfl ?_)
        refine (wl_done (then_norm ?_))
        refine WC.sub [(0, .slice A n c), (1, .slice A2 n2 c2), (6, .bool false), (11, .slice A150 n151 c152), (15, .bool (sameR a b)), (19, .slice A1146 n1147 c1148), (21, .slice A1154 n1155 c1156)] ⟨rfl, rfl, rfl, rfl, rfl, rfl, rfl, trivial⟩ ?_
        refine wc_seq ?_
        refine wc_region ?_
        refine wl_op rfl (op_move rfl rfl ?_)
        refine wl_op rfl (op_move rfl rfl ?_)
        have hB161 : Below w.heap.size w W159 := (below_step hB153 hE160)
        refine wl_op rfl (op_call ent15 rfl (Over_spec (hs.ext (flat_lifts _) hB161) hp157 (by omega) (by omega) (by omega) (by omega)) rfl ?_)
        rintro _ W167 ⟨A1162, n1163, c1164, rfl, hp165, hp166, hE168⟩
        have := hp165.len
        refine wl_op rfl (op_move rfl rfl ?_)
        refine wl_op rfl (op_extract (v := .slice A1162 n1163 c1164) rfl rfl rfl ?_)
        refine wl_op rfl (op_extract (v := .int .i64 (overE a (overR b d))) rfl rfl rfl ?_)
        refine wl_op rfl (op_assign rfl rfl ?_)
        refine (wl_done (then_norm ?_))
        refine WC.sub [(0, .slice A n c), (1, .slice A2 n2 c2), (6, .bool false), (11, .slice A150 n151 c152), (15, .bool (sameR a b)), (19, .slice A1146 n1147 c1148), (21, .slice A1162 n1163 c1164)] ⟨rfl, rfl, rfl, rfl, rfl, rfl, rfl, trivial⟩ ?_
        refine wc_seq ?_
        refine wc_region ?_
        refine wl_op rfl (op_move rfl rfl ?_)
        refine wl_op rfl (op_move rfl rfl ?_)
        have hB169 : Below w.heap.size w W167 := (below_step hB161 hE168)
        refine wl_op rfl (op_call ent15 rfl (Over_spec (hs.ext (flat_lifts _) hB169) (hs.ext (flat_lifts _) hB169) (by omega) (by omega) (by omega) (by omega)) rfl ?_)
        rintro _ W175 ⟨A1170, n1171, c1172, rfl, hp173, hp174, hE176⟩
        have := hp173.len
        refine wl_op rfl (op_move rfl rfl ?_)
        refine wl_op rfl (op_extract (v := .slice A1170 n1171 c1172) rfl rfl rfl ?_)
        refine wl_op rfl (op_extract (v := .int .i64 (overE a a)) rfl rfl rfl ?_)
        refine wl_op rfl (op_assign rfl rfl ?_)
        refine wl_op rfl (op_assign rfl rfl ?_)
        refine (wl_done (then_norm ?_))
        refine WC.sub [(0, .slice A n c), (1, .slice A2 n2 c2), (6, .bool false), (11, .slice A150 n151 c152), (15, .bool (sameR a b)), (19, .slice A1146 n1147 c1148), (21, .slice A1162 n1163 c1164), (23, .slice A1170 n1171 c1172)] ⟨rfl, rfl, rfl, rfl, rfl, rfl, rfl, rfl, trivial⟩ ?_
        refine wc_seq ?_
        refine wc_region ?_
        refine wl_op rfl (op_move rfl rfl ?_)
        have hB177 : Below w.heap.size w W175 := (below_step hB169 hE176)
        refine wl_op rfl (op_call ent21 rfl (Plain_spec (hs.ext (flat_lifts _) hB177) (by omega)) rfl ?_)
        rintro _ W182 ⟨A1178, n1179, c1180, rfl, hp181, hE183⟩
        refine wl_op rfl (op_move rfl rfl ?_)
        refine wl_op rfl (op_extract (v := .slice A1178 n1179 c1180) rfl rfl rfl ?_)
        refine wl_op rfl (op_extract (v := .int .i64 (chosenE a)) rfl rfl rfl ?_)
        refine wl_op rfl (op_assign rfl rfl ?_)
        refine wl_op rfl (op_assign rfl rfl ?_)
        refine (wl_done (then_norm ?_))
        refine WC.sub [(0, .slice A n c), (1, .slice A2 n2 c2), (6, .bool false), (11, .slice A150 n151 c152), (15, .bool (sameR a b)), (19, .slice A1146 n1147 c1148), (21, .slice A1162 n1163 c1164), (23, .slice A1170 n1171 c1172), (25, .slice A1178 n1179 c1180)] ⟨rfl, rfl, rfl, rfl, rfl, rfl, rfl, rfl, rfl, trivial⟩ ?_
        refine wc_seq ?_
        refine wc_region ?_
        refine wl_op rfl (op_move rfl rfl ?_)
        have hB184 : Below w.heap.size w W182 := (below_step hB177 hE183)
        refine wl_op rfl (op_call ent21 rfl (Plain_spec (hs2.ext (flat_lifts _) hB184) (by omega)) rfl ?_)
        rintro _ W189 ⟨A1185, n1186, c1187, rfl, hp188, hE190⟩
        refine wl_op rfl (op_move rfl rfl ?_)
        refine wl_op rfl (op_extract (v := .slice A1185 n1186 c1187) rfl rfl rfl ?_)
        refine wl_op rfl (op_extract (v := .int .i64 (chosenE b)) rfl rfl rfl ?_)
        refine wl_op rfl (op_assign rfl rfl ?_)
        refine wl_op rfl (op_assign rfl rfl ?_)
        refine (wl_done (then_norm ?_))
        refine WC.sub [(0, .slice A n c), (6, .bool false), (11, .slice A150 n151 c152), (15, .bool (sameR a b)), (19, .slice A1146 n1147 c1148), (21, .slice A1162 n1163 c1164), (23, .slice A1170 n1171 c1172), (25, .slice A1178 n1179 c1180), (27, .slice A1185 n1186 c1187)] ⟨rfl, rfl, rfl, rfl, rfl, rfl, rfl, rfl, rfl, trivial⟩ ?_
        refine wc_seq ?_
        refine wc_text [(0, .slice A n c), (11, .slice A150 n151 c152), (15, .bool (sameR a b)), (19, .slice A1146 n1147 c1148), (21, .slice A1162 n1163 c1164), (23, .slice A1170 n1171 c1172), (25, .slice A1178 n1179 c1180), (27, .slice A1185 n1186 c1187)] ⟨rfl, rfl, rfl, rfl, rfl, rfl, rfl, rfl, trivial⟩ [fun v _ => v = .slice A1146 n1147 c1148, fun v _ => v = .slice A1162 n1163 c1164, fun v _ => v = .bool (decide ((overR (overR a b) d) = (overR a (overR b d)))), fun v _ => v = .bool (decide ((overR (overR a b) d) = (overR a (overR b d)))), fun v _ => v = (bif (decide ((overR (overR a b) d) = (overR a (overR b d)))) then (.slice A1146 n1147 c1148) else undef), fun v _ => v = (bif (decide ((overR (overR a b) d) = (overR a (overR b d)))) then (.slice A150 n151 c152) else undef), fun v _ => v = (bif (decide ((overR (overR a b) d) = (overR a (overR b d)))) then (.bool (decide ((overR (overR a b) d) = (effR [a, b, d])))) else undef), fun v _ => v = .bool ((decide ((overR (overR a b) d) = (overR a (overR b d)))) && (decide ((overR (overR a b) d) = (effR [a, b, d])))), fun v _ => v = .bool ((decide ((overR (overR a b) d) = (overR a (overR b d)))) && (decide ((overR (overR a b) d) = (effR [a, b, d])))), fun v _ => v = (bif ((decide ((overR (overR a b) d) = (overR a (overR b d)))) && (decide ((overR (overR a b) d) = (effR [a, b, d])))) then (.slice A1170 n1171 c1172) else undef), fun v _ => v = (bif ((decide ((overR (overR a b) d) = (overR a (overR b d)))) && (decide ((overR (overR a b) d) = (effR [a, b, d])))) then (.slice A n c) else undef), fun v _ => v = (bif ((decide ((overR (overR a b) d) = (overR a (overR b d)))) && (decide ((overR (overR a b) d) = (effR [a, b, d])))) then (.bool (decide ((overR a a) = a))) else undef), fun v _ => v = .bool (((decide ((overR (overR a b) d) = (overR a (overR b d)))) && (decide ((overR (overR a b) d) = (effR [a, b, d])))) && (decide ((overR a a) = a))), fun v _ => v = .bool (((decide ((overR (overR a b) d) = (overR a (overR b d)))) && (decide ((overR (overR a b) d) = (effR [a, b, d])))) && (decide ((overR a a) = a))), fun v _ => v = (bif (((decide ((overR (overR a b) d) = (overR a (overR b d)))) && (decide ((overR (overR a b) d) = (effR [a, b, d])))) && (decide ((overR a a) = a))) then (.bool (sameR a b)) else undef), fun v _ => v = (bif (((decide ((overR (overR a b) d) = (overR a (overR b d)))) && (decide ((overR (overR a b) d) = (effR [a, b, d])))) && (decide ((overR a a) = a))) then (.slice A1178 n1179 c1180) else undef), fun v _ => v = (bif (((decide ((overR (overR a b) d) = (overR a (overR b d)))) && (decide ((overR (overR a b) d) = (effR [a, b, d])))) && (decide ((overR a a) = a))) then (.slice A1185 n1186 c1187) else undef), fun v _ => v = (bif (((decide ((overR (overR a b) d) = (overR a (overR b d)))) && (decide ((overR (overR a b) d) = (effR [a, b, d])))) && (decide ((overR a a) = a))) then (.bool (decide ((chosenL a keepPlain) = (chosenL b keepPlain)))) else undef), fun v _ => v = (bif (((decide ((overR (overR a b) d) = (overR a (overR b d)))) && (decide ((overR (overR a b) d) = (effR [a, b, d])))) && (decide ((overR a a) = a))) then (.bool (decide ((sameR a b) = (decide ((chosenL a keepPlain) = (chosenL b keepPlain)))))) else undef), fun v _ => v = .bool ((((decide ((overR (overR a b) d) = (overR a (overR b d)))) && (decide ((overR (overR a b) d) = (effR [a, b, d])))) && (decide ((overR a a) = a))) && (decide ((sameR a b) = (decide ((chosenL a keepPlain) = (chosenL b keepPlain)))))), fun v _ => v = .bool ((((decide ((overR (overR a b) d) = (overR a (overR b d)))) && (decide ((overR (overR a b) d) = (effR [a, b, d])))) && (decide ((overR a a) = a))) && (decide ((sameR a b) = (decide ((chosenL a keepPlain) = (chosenL b keepPlain)))))), fun v _ => v = (bif ((((decide ((overR (overR a b) d) = (overR a (overR b d)))) && (decide ((overR (overR a b) d) = (effR [a, b, d])))) && (decide ((overR a a) = a))) && (decide ((sameR a b) = (decide ((chosenL a keepPlain) = (chosenL b keepPlain)))))) then (.bool true) else undef), fun v _ => v = .bool (((((decide ((overR (overR a b) d) = (overR a (overR b d)))) && (decide ((overR (overR a b) d) = (effR [a, b, d])))) && (decide ((overR a a) = a))) && (decide ((sameR a b) = (decide ((chosenL a keepPlain) = (chosenL b keepPlain)))))) && true), fun v _ => v = .bool (((((decide ((overR (overR a b) d) = (overR a (overR b d)))) && (decide ((overR (overR a b) d) = (effR [a, b, d])))) && (decide ((overR a a) = a))) && (decide ((sameR a b) = (decide ((chosenL a keepPlain) = (chosenL b keepPlain)))))) && true)] [[], [], [0, 1], [2], [3], [3], [3, 4, 5], [3, 6], [7], [8], [8], [8, 9, 10], [8, 11], [12], [13], [13], [13], [13, 15, 16], [13, 14, 17], [13, 18], [19], [20], [20, 21], [22]] [23] rfl rfl rfl ⟨fun _ _ _ _ h => h, fun _ _ _ _ h => h, fun _ _ _ _ h => h, fun _ _ _ _ h => h, fun _ _ _ _ h => h, fun _ _ _ _ h => h, fun _ _ _ _ h => h, fun _ _ _ _ h => h, fun _ _ _ _ h => h, fun _ _ _ _ h => h, fun _ _ _ _ h => h, fun _ _ _ _ h => h, fun _ _ _ _ h => h, fun _ _ _ _ h => h, fun _ _ _ _ h => h, fun _ _ _ _ h => h, fun _ _ _ _ h => h, fun _ _ _ _ h => h, fun _ _ _ _ h => h, fun _ _ _ _ h => h, fun _ _ _ _ h => h, fun _ _ _ _ h => h, fun _ _ _ _ h => h, fun _ _ _ _ h => h, trivial⟩ ⟨?_, ?_, ?_, ?_, ?_, ?_, ?_, ?_, ?_, ?_, ?_, ?_, ?_, ?_, ?_, ?_, ?_, ?_, ?_, ?_, ?_, ?_, ?_, ?_, trivial⟩ ?_
        · intro W191 hW192
          refine gather_nil ?_
          refine opg_none rfl ?_
          exact op_move rfl rfl ⟨told rfl rfl rfl, (Below.refl _ _)⟩
        · intro W191 hW192
          refine gather_nil ?_
          refine opg_none rfl ?_
          exact op_move rfl rfl ⟨told rfl rfl rfl, (Below.refl _ _)⟩
        · intro W191 hW192
          rintro _ rfl
          rintro _ rfl
          refine gather_nil ?_
          refine opg_none rfl ?_
          have hB201 : Below W151.heap.size W151 W191 := (below_step (below_step (below_step (below_step (below_step (below_step (Below.refl _ _) hE160) hE168) hE176) hE183) hE190) hW192)
          have hB202 : Below W167.heap.size W167 W191 := (below_step (below_step (below_step (below_step (Below.refl _ _) hE176) hE183) hE190) hW192)
          refine op_call ent12 rfl (same_spec (hp149.ext (flat_lifts _) hB201) (hp165.ext (flat_lifts _) hB202)) rfl ?_
          rintro _ W203 ⟨rfl, hE204⟩
          exact ⟨told rfl rfl rfl, hE204⟩
        · intro W191 hW192
          rintro _ rfl
          refine gather_nil ?_
          refine opg_none rfl ?_
          exact op_move rfl rfl ⟨told rfl rfl rfl, (Below.refl _ _)⟩
        · intro W191 hW192
          rintro _ rfl
          refine gather_nil ?_
          refine opg_t1 rfl rfl (fun hg205 => ?_) (fun h => by rw [h, cond_false])
          exact op_move rfl rfl ⟨told rfl rfl (by rw [hg205, cond_true]), (Below.refl _ _)⟩
        · intro W191 hW192
          rintro _ rfl
          refine gather_nil ?_
          refine opg_t1 rfl rfl (fun hg206 => ?_) (fun h => by rw [h, cond_false])
          exact op_move rfl rfl ⟨told rfl rfl (by rw [hg206, cond_true]), (Below.refl _ _)⟩
        · intro W191 hW192
          rintro _ rfl
          intro v207 (hv208 : v207 = bif (decide ((overR (overR a b) d) = (overR a (overR b d)))) then (.slice A1146 n1147 c1148) else undef)
          intro v209 (hv210 : v209 = bif (decide ((overR (overR a b) d) = (overR a (overR b d)))) then (.slice A150 n151 c152) else undef)
          refine gather_nil ?_
          refine opg_t1 rfl rfl (fun hg211 => ?_) (fun h => by rw [h, cond_false])
          have hd212 := of_decide_eq_true hg211
          obtain rfl : v207 = .slice A1146 n1147 c1148 := by rw [hv208, hg211, cond_true]
          obtain rfl : v209 = .slice A150 n151 c152 := by rw [hv210, hg211, cond_true]
          have hB213 : Below W151.heap.size W151 W191 := (below_step (below_step (below_step (below_step (below_step (below_step (Below.refl _ _) hE160) hE168) hE176) hE183) hE190) hW192)
          have hB214 : Below W55.heap.size W55 W191 := (below_step (below_step (below_step (below_step (below_step (below_step (below_step (below_step (below_step (below_step (below_step (below_new (Below.refl _ _) hN59) hE68) hE71) hE74) hW138) hE152) hE160) hE168) hE176) hE183) hE190) hW192)
          refine op_call ent12 rfl (same_spec (hp149.ext (flat_lifts _) hB213) (hp53.ext (flat_lifts _) hB214)) rfl ?_
          rintro _ W215 ⟨rfl, hE216⟩
          exact ⟨told rfl rfl (by rw [hg211, cond_true]), hE216⟩
        · intro W191 hW192
          rintro _ rfl
          intro v217 (hv218 : v217 = bif (decide ((overR (overR a b) d) = (overR a (overR b d)))) then (.bool (decide ((overR (overR a b) d) = (effR [a, b, d])))) else undef)
          refine gather_nil ?_
          refine opg_none rfl ?_
          exact op_and rfl rfl rfl (fun h => by rw [hv218, h, cond_true]) rfl ⟨told rfl rfl rfl, (Below.refl _ _)⟩
        · intro W191 hW192
          rintro _ rfl
          refine gather_nil ?_
          refine opg_none rfl ?_
          exact op_move rfl rfl ⟨told rfl rfl rfl, (Below.refl _ _)⟩
        · intro W191 hW192
          rintro _ rfl
          refine gather_nil ?_
          refine opg_t1 rfl rfl (fun hg219 => ?_) (fun h => by rw [h, cond_false])
          exact op_move rfl rfl ⟨told rfl rfl (by rw [hg219, cond_true]), (Below.refl _ _)⟩
        · intro W191 hW192
          rintro _ rfl
          refine gather_nil ?_
          refine opg_t1 rfl rfl (fun hg220 => ?_) (fun h => by rw [h, cond_false])
          exact op_move rfl rfl ⟨told rfl rfl (by rw [hg220, cond_true]), (Below.refl _ _)⟩
        · intro W191 hW192
          rintro _ rfl
          intro v221 (hv222 : v221 = bif ((decide ((overR (overR a b) d) = (overR a (overR b d)))) && (decide ((overR (overR a b) d) = (effR [a, b, d])))) then (.slice A1170 n1171 c1172) else undef)
          intro v223 (hv224 : v223 = bif ((decide ((overR (overR a b) d) = (overR a (overR b d)))) && (decide ((overR (overR a b) d) = (effR [a, b, d])))) then (.slice A n c) else undef)
          refine gather_nil ?_
          refine opg_t1 rfl rfl (fun hg225 => ?_) (fun h => by rw [h, cond_false])
          obtain rfl : v221 = .slice A1170 n1171 c1172 := by rw [hv222, hg225, cond_true]
          obtain rfl : v223 = .slice A n c := by rw [hv224, hg225, cond_true]
          have hB226 : Below W175.heap.size W175 W191 := (below_step (below_step (below_step (Below.refl _ _) hE183) hE190) hW192)
          have hB227 : Below w.heap.size w W191 := (below_step (below_step hB184 hE190) hW192)
          refine op_call ent12 rfl (same_spec (hp173.ext (flat_lifts _) hB226) (hs.ext (flat_lifts _) hB227)) rfl ?_
          rintro _ W228 ⟨rfl, hE229⟩
          exact ⟨told rfl rfl (by rw [hg225, cond_true]), hE229⟩
        · intro W191 hW192
          rintro _ rfl
          intro v230 (hv231 : v230 = bif ((decide ((overR (overR a b) d) = (overR a (overR b d)))) && (decide ((overR (overR a b) d) = (effR [a, b, d])))) then (.bool (decide ((overR a a) = a))) else undef)
          refine gather_nil ?_
          refine opg_none rfl ?_
          exact op_and rfl rfl rfl (fun h => by rw [hv231, h, cond_true]) rfl ⟨told rfl rfl rfl, (Below.refl _ _)⟩
        · intro W191 hW192
          rintro _ rfl
          refine gather_nil ?_
          refine opg_none rfl ?_
          exact op_move rfl rfl ⟨told rfl rfl rfl, (Below.refl _ _)⟩
        · intro W191 hW192
          rintro _ rfl
          refine gather_nil ?_
          refine opg_t1 rfl rfl (fun hg232 => ?_) (fun h => by rw [h, cond_false])
          exact op_move rfl rfl ⟨told rfl rfl (by rw [hg232, cond_true]), (Below.refl _ _)⟩
        · intro W191 hW192
          rintro _ rfl
          refine gather_nil ?_
          refine opg_t1 rfl rfl (fun hg233 => ?_) (fun h => by rw [h, cond_false])
          exact op_move rfl rfl ⟨told rfl rfl (by rw [hg233, cond_true]), (Below.refl _ _)⟩
        · intro W191 hW192
          rintro _ rfl
          refine gather_nil ?_
          refine opg_t1 rfl rfl (fun hg234 => ?_) (fun h => by rw [h, cond_false])
          exact op_move rfl rfl ⟨told rfl rfl (by rw [hg234, cond_true]), (Below.refl _ _)⟩
        · intro W191 hW192
          rintro _ rfl
          intro v235 (hv236 : v235 = bif (((decide ((overR (overR a b) d) = (overR a (overR b d)))) && (decide ((overR (overR a b) d) = (effR [a, b, d])))) && (decide ((overR a a) = a))) then (.slice A1178 n1179 c1180) else undef)
          intro v237 (hv238 : v237 = bif (((decide ((overR (overR a b) d) = (overR a (overR b d)))) && (decide ((overR (overR a b) d) = (effR [a, b, d])))) && (decide ((overR a a) = a))) then (.slice A1185 n1186 c1187) else undef)
          refine gather_nil ?_
          refine opg_t1 rfl rfl (fun hg239 => ?_) (fun h => by rw [h, cond_false])
          obtain rfl : v235 = .slice A1178 n1179 c1180 := by rw [hv236, hg239, cond_true]
          obtain rfl : v237 = .slice A1185 n1186 c1187 := by rw [hv238, hg239, cond_true]
          have hB240 : Below W182.heap.size W182 W191 := (below_step (below_step (Below.refl _ _) hE190) hW192)
          have hB241 : Below W189.heap.size W189 W191 := (below_step (Below.refl _ _) hW192)
          refine op_call ent12 rfl (same_spec (hp181.ext (flat_lifts _) hB240) (hp188.ext (flat_lifts _) hB241)) rfl ?_
          rintro _ W242 ⟨rfl, hE243⟩
          exact ⟨told rfl rfl (by rw [hg239, cond_true]), hE243⟩
        · intro W191 hW192
          rintro _ rfl
          intro v244 (hv245 : v244 = bif (((decide ((overR (overR a b) d) = (overR a (overR b d)))) && (decide ((overR (overR a b) d) = (effR [a, b, d])))) && (decide ((overR a a) = a))) then (.bool (sameR a b)) else undef)
          intro v246 (hv247 : v246 = bif (((decide ((overR (overR a b) d) = (overR a (overR b d)))) && (decide ((overR (overR a b) d) = (effR [a, b, d])))) && (decide ((overR a a) = a))) then (.bool (decide ((chosenL a keepPlain) = (chosenL b keepPlain)))) else undef)
          refine gather_nil ?_
          refine opg_t1 rfl rfl (fun hg248 => ?_) (fun h => by rw [h, cond_false])
          obtain rfl : v244 = .bool (sameR a b) := by rw [hv245, hg248, cond_true]
          obtain rfl : v246 = .bool (decide ((chosenL a keepPlain) = (chosenL b keepPlain))) := by rw [hv247, hg248, cond_true]
          exact op_eqlb und4 rfl rfl rfl ⟨told rfl rfl (by rw [hg248, cond_true]), (Below.refl _ _)⟩
        · intro W191 hW192
          rintro _ rfl
          intro v249 (hv250 : v249 = bif (((decide ((overR (overR a b) d) = (overR a (overR b d)))) && (decide ((overR (overR a b) d) = (effR [a, b, d])))) && (decide ((overR a a) = a))) then (.bool (decide ((sameR a b) = (decide ((chosenL a keepPlain) = (chosenL b keepPlain)))))) else undef)
          refine gather_nil ?_
          refine opg_none rfl ?_
          exact op_and rfl rfl rfl (fun h => by rw [hv250, h, cond_true]) rfl ⟨told rfl rfl rfl, (Below.refl _ _)⟩
        · intro W191 hW192
          rintro _ rfl
          refine gather_nil ?_
          refine opg_none rfl ?_
          exact op_move rfl rfl ⟨told rfl rfl rfl, (Below.refl _ _)⟩
        · intro W191 hW192
          rintro _ rfl
          refine gather_nil ?_
          refine opg_t1 rfl rfl (fun hg251 => ?_) (fun h => by rw [h, cond_false])
          refine op_call ent7 rfl (awake_spec) rfl ?_
          rintro _ W252 ⟨rfl, hE253⟩
          exact ⟨told rfl rfl (by rw [hg251, cond_true]), hE253⟩
        · intro W191 hW192
          rintro _ rfl
          intro v254 (hv255 : v254 = bif ((((decide ((overR (overR a b) d) = (overR a (overR b d)))) && (decide ((overR (overR a b) d) = (effR [a, b, d])))) && (decide ((overR a a) = a))) && (decide ((sameR a b) = (decide ((chosenL a keepPlain) = (chosenL b keepPlain)))))) then (.bool true) else undef)
          refine gather_nil ?_
          refine opg_none rfl ?_
          exact op_and rfl rfl rfl (fun h => by rw [hv255, h, cond_true]) rfl ⟨told rfl rfl rfl, (Below.refl _ _)⟩
        · intro W191 hW192
          rintro _ rfl
          refine gather_nil ?_
          refine opg_none rfl ?_
          exact op_assign rfl rfl ⟨told rfl rfl rfl, (Below.refl _ _)⟩
        intro W256 hW257
        rintro _ rfl
        refine gather_nil ?_
        refine (then_norm ?_)
        refine WC.sub [(6, .bool (((((decide ((overR (overR a b) d) = (overR a (overR b d)))) && (decide ((overR (overR a b) d) = (effR [a, b, d])))) && (decide ((overR a a) = a))) && (decide ((sameR a b) = (decide ((chosenL a keepPlain) = (chosenL b keepPlain)))))) && true))] ⟨rfl, trivial⟩ ?_
        refine wc_ret ?_
        have hB258 : Below w.heap.size w W256 := (below_step (below_step hB184 hE190) hW257)
        refine ⟨[_], ⟨rfl, trivial⟩, ⟨?_, hB258⟩⟩
        exact congrArg Value.bool (over_law hva hvb hvd)

end Go.Eng
