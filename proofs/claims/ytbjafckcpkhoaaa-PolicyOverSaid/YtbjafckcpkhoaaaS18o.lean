/- Lemmas for a law of the seat: what functions of the program do, each stated as a contract of its own (module S18o). -/
import Derived.Test.YtbjafckcpkhoaaaS18n
import Derived.Test.YtbjafckcpkhoaaaEngF
import Derived.Test.YtbjafckcpkhoaaaEngH
import Derived.Test.YtbjafckcpkhoaaaChecked
set_option linter.unusedVariables false
set_option maxRecDepth 100000
namespace Go.Eng
open Go.RowKit Go.Shelf Go.Proofs Pol

theorem ent76 : Enters Try.prog 76 := enters_of Try.func76 (by kernel_rfl) rfl

def overL : List Pol → List Pol → List Pol
  | [], ys => ys
  | x :: xs, [] => x :: overL xs []
  | x :: xs, y :: ys => if x.kind < y.kind then x :: overL xs (y :: ys) else if x.kind = y.kind then y :: overL xs ys else y :: overL (x :: xs) ys
  termination_by a b => a.length + b.length
abbrev RdPc (w : World) (A : Option Addr) (n c : Nat) (xs : List Pol) : Prop := RdP w A n xs ∧ n ≤ c

theorem over_spec {w : World} {A : Option Addr} {n c : Nat} {A2 : Option Addr} {n2 c2 : Nat} : Ret Try.prog 54 #[.slice A n c, .slice A2 n2 c2] w (fun v w' => ∃ (b1 b2 : Nat), v = .func (.func 77) #[] #[.pointer (some ⟨b1, 0, none⟩), .pointer (some ⟨b2, 0, none⟩)] ∧ w'.heap[b1]? = some (.cells #[.slice A n c] 22 (0, 0)) ∧ w'.heap[b2]? = some (.cells #[.slice A2 n2 c2] 22 (0, 0)) ∧ w.heap.size ≤ b1 ∧ w.heap.size ≤ b2 ∧ b1 ≠ b2 ∧ Below w.heap.size w w') := by
  refine ret_of (args := [.slice A n c, .slice A2 n2 c2]) Try.func54 rfl Try.ntmps54 rfl (rs := [.tmp 4]) rfl ?_
  refine wc_seq ?_
  refine wc_region ?_
  refine wl_op rfl (op_box rfl rfl ?_)
  intro W1 b2 hN3
  have hb4 : W1.heap[b2]? = some (.cells #[.slice A n c] 22 (0, 0)) := hN3.blk
  refine wl_op rfl (op_box rfl rfl ?_)
  intro W5 b6 hN7
  have hb8 : W5.heap[b6]? = some (.cells #[.slice A2 n2 c2] 22 (0, 0)) := hN7.blk
  refine wl_op rfl (op_assign rfl rfl ?_)
  refine (wl_done (then_norm ?_))
  refine wc_seq ?_
  refine wc_region ?_
  refine wl_op rfl (op_makeFunc rfl rfl rfl ?_)
  refine wl_op rfl (op_assign rfl rfl ?_)
  refine (wl_done (then_norm ?_))
  refine wc_ret ?_
  have hB9 : Below w.heap.size w W5 := (below_new (below_new (Below.refl _ _) hN3) hN7)
  have hb10 : W5.heap[b2]? = some (.cells #[.slice A n c] 22 (0, 0)) := (blk_ext hb4 hN7.ext)
  have hB11 : Below w.heap.size w W1 := (below_new (Below.refl _ _) hN3)
  have hne12 : b2 ≠ b6 := ne_new hb4 hN7
  refine ⟨[_], ⟨rfl, trivial⟩, ⟨b2, b6, ?_, hb10, hb8, (Nat.le_of_eq hN3.eq.symm), (Nat.le_trans hB11.size (Nat.le_of_eq hN7.eq.symm)), hne12, hB9⟩⟩
  exact rfl

theorem AppendSeq_spec {w : World} {g : Nat} {caps : List Value} {FT : List Nat} {S : List Pol} (hent : Enters Try.prog g) (hseq : SeqC Try.prog g caps (fun p : Pol => [.agg (encP p).toArray]) FT S w.heap.size w) (hFT : ∀ k ∈ FT, k < w.heap.size) (hS : S.length ≤ 100000) : Ret Try.prog 76 #[.slice none 0 0, .func (.func g) #[] caps.toArray] w (fun v w' => ∃ (A1 : Option Addr) (n1 c1 : Nat), v = .slice A1 n1 c1 ∧ RdP w' A1 n1 S ∧ n1 ≤ c1 ∧ But FT w.heap.size w w') := by
  refine ret_ofM (args := [.slice none 0 0, .func (.func g) #[] caps.toArray]) Try.func76 rfl Try.ntmps76 rfl (rs := [.tmp 4]) rfl ?_
  refine wc_seq ?_
  refine wc_region ?_
  refine wl_op rfl (op_box rfl rfl ?_)
  intro W1 b2 hN3
  have hb4 : W1.heap[b2]? = some (.cells #[.slice none 0 0] 22 (0, 0)) := hN3.blk
  refine wl_op rfl (op_assign rfl rfl ?_)
  refine (wl_done (then_norm ?_))
  refine wc_seq ?_
  refine wc_seq ?_
  refine wc_region ?_
  refine wl_op rfl (op_move rfl rfl ?_)
  refine (wl_done (then_norm ?_))
  refine wc_block ?_
  have hB5 : Below w.heap.size w W1 := (below_new (Below.refl _ _) hN3)
  have hB6 : Below w.heap.size w W1 := (below_new (Below.refl _ _) hN3)
  refine wc_range (encs := (fun p : Pol => [.agg (encP p).toArray])) (FT := FT) (S := S) (n0 := w.heap.size) rfl rfl rfl hent (hseq.ext hB6) (fun _ => rfl) rfl hB6.size (fun k hk => Nat.lt_of_lt_of_le (hFT k hk) hB6.size)
    (fun pre W => ∃ (v : Value), (W.heap[b2]? = some (.cells #[v] 22 (0, 0))) ∧ (Own encP w.heap.size 46 2 W v pre) ∧ (some b2 ≠ v.ownBlock) ∧ But FT w.heap.size w W)
    (fun _ _ => False)
    (by rintro pre W1 W2 ⟨v, hb_b2, hown, hne, hE_r⟩ hB; exact ⟨v, (but_blk hb_b2 hB (nin_ge hFT (Nat.le_of_eq hN3.eq.symm))), (but_own hown hB hFT), hne, (hE_r.trans (hB.mono (fun _ h => h) hB5.size))⟩)
    (fun _ _ _ h _ => h)
    ⟨.slice none 0 0, hb4, (own_nil _ _ _ _ _), own_ne_nil, (But.of_below hB6)⟩ ?_ ?_ ?_
  · rintro l0 pre p rest W7 hS ⟨v, hb_b2, hown, hne, hE_r⟩ hsz
    refine WC.sub [(2, .pointer (some ⟨b2, 0, none⟩)), (4, .slice none 0 0), (7, .agg #[.int .i64 p.kind, .int .i64 p.val])] ⟨rfl, rfl, rfl, trivial⟩ ?_
    refine wc_region ?_
    refine wl_op rfl (op_alloc zero46 rfl ?_)
    intro W8 b9 hN10
    have hb11 : W8.heap[b9]? = some (.cells #[.int .i64 0, .int .i64 0] 46 (0, 0)) := hN10.blk
    refine wl_op rfl (op_storeW rfl rfl sz46 hb11 rfl rfl ?_)
    intro W12 hP13 hb14
    have hb14 : W12.heap[b9]? = some (.cells #[.int .i64 p.kind, .int .i64 p.val] 46 (0, 0)) := hb14
    refine (wl_done (then_norm ?_))
    refine ⟨(hP13.below ((Below.refl _ _).trans (hN10.ext.mono (Nat.le_trans hB6.size hsz))) (Nat.le_trans (Nat.le_trans hB6.size hsz) (Nat.le_of_eq hN10.eq.symm))), ?_⟩
    intro W15 hBut16 hSz17
    refine wc_block ?_
    refine wc_region ?_
    have hne18 : b2 ≠ b9 := ne_new hb_b2 hN10
    have hb19 : W15.heap[b2]? = some (.cells #[v] 22 (0, 0)) := (but_blk (hP13.blk (blk_ext hb_b2 hN10.ext) hne18) hBut16 nin_nil)
    refine wl_op rfl (op_load1 (v := v) rfl agg22 (cell_blk hb19 rfl) rfl ?_)
    have hb20 : W15.heap[b9]? = some (.cells #[.int .i64 p.kind, .int .i64 p.val] 46 (0, 0)) := (but_blk hb14 hBut16 nin_nil)
    refine wl_op rfl (op_loadN (vs := [.int .i64 p.kind, .int .i64 p.val]) rfl agg46 sz46 rfl (cells_blk hb20) rfl ?_)
    refine wl_op rfl (op_buildSlice (cs := #[.int .i64 p.kind, .int .i64 p.val]) (e := 46) rfl (fun w => by kernel_rfl) rfl ?_)
    intro W21 b22 hN23
    have hb24 : W21.heap[b22]? = some (.cells #[.int .i64 p.kind, .int .i64 p.val] 46 (0, 0)) := hN23.blk
    have hb25 : W21.heap[b2]? = some (.cells #[v] 22 (0, 0)) := (blk_ext (but_blk (hP13.blk (blk_ext hb_b2 hN10.ext) hne18) hBut16 nin_nil) hN23.ext)
    refine wl_op rfl (op_appendP (enc := encP) (⟨p.kind, p.val⟩ : Pol) rfl rfl app22 rfl rfl (Own.ext (but_own (own_put (Own.ext hown hN10.ext) hP13 (own_ne_new hown hN10)) hBut16 lt_nil) hN23.ext) (cells_blk hb24) rfl rfl (by (have := congrArg List.length hS; simp at this; omega)) (by (have := congrArg List.length hS; simp at this; omega)) (Nat.le_trans (Nat.le_trans (Nat.le_trans (Nat.le_trans (Nat.le_trans hB6.size hsz) hN10.ext.size) (Nat.le_of_eq hP13.size.symm)) hBut16.size) hN23.ext.size) rfl ?_)
    intro v26 W27 ho28 hg29 hob30
    obtain ⟨A31, n32, c33, hv34⟩ := own_slice ho28
    subst hv34
    have hb35 : W27.heap[b2]? = some (.cells #[v] 22 (0, 0)) := (blk_grown (blk_ext hb19 hN23.ext) hg29 hne)
    refine wl_op rfl (op_storeW rfl rfl sz22 hb35 rfl rfl ?_)
    intro W36 hP37 hb38
    have hb38 : W36.heap[b2]? = some (.cells #[(.slice A31 n32 c33)] 22 (0, 0)) := hb38
    refine (wl_done (block_norm ?_))
    exact rq_norm (hP37.below (((Below.refl _ _).trans (hN23.ext.mono (hSz17 ▸ (Nat.le_trans (Nat.le_trans hB6.size hsz) (hP13.below ((Below.refl _ _).trans (hN10.ext.mono (Nat.le_trans hB6.size hsz))) (Nat.le_trans (Nat.le_trans hB6.size hsz) (Nat.le_of_eq hN10.eq.symm))).size)))).grown hg29 (Nat.le_trans (hSz17 ▸ (Nat.le_trans (Nat.le_trans hB6.size hsz) (hP13.below ((Below.refl _ _).trans (hN10.ext.mono (Nat.le_trans hB6.size hsz))) (Nat.le_trans (Nat.le_trans hB6.size hsz) (Nat.le_of_eq hN10.eq.symm))).size)) ((Below.refl _ _).trans (hN23.ext.mono (hSz17 ▸ (Nat.le_trans (Nat.le_trans hB6.size hsz) (hP13.below ((Below.refl _ _).trans (hN10.ext.mono (Nat.le_trans hB6.size hsz))) (Nat.le_trans (Nat.le_trans hB6.size hsz) (Nat.le_of_eq hN10.eq.symm))).size)))).size) (fun k hk => Nat.le_trans (Nat.le_refl _) (World.ownsRow.lt (Own.ext (but_own (own_put (Own.ext hown hN10.ext) hP13 (own_ne_new hown hN10)) hBut16 lt_nil) hN23.ext) k hk).1)) (Nat.le_of_eq hN3.eq.symm)) ⟨(.slice A31 n32 c33), hb38, (own_put ho28 hP37 (own_ne_step hne hob30 (blk_lt hb25))), (own_ne_step hne hob30 (blk_lt hb25)), ((((((hE_r.trans (But.of_below hN10.ext)).put_ge hP13 (Nat.le_trans (Nat.le_trans hB6.size hsz) (Nat.le_of_eq hN10.eq.symm))).trans (hBut16.mono (fun k hk => by cases hk) hB6.size)).trans (But.of_below hN23.ext)).grow_ge hg29 (fun k hk => Nat.le_trans (Nat.le_refl _) (World.ownsRow.lt (Own.ext (but_own (own_put (Own.ext hown hN10.ext) hP13 (own_ne_new hown hN10)) hBut16 lt_nil) hN23.ext) k hk).1)).put_ge hP37 (Nat.le_of_eq hN3.eq.symm))⟩
  · rintro W39 ⟨v, hb_b2, hown, hne, hE_r⟩ hsz
    refine (block_norm (then_norm ?_))
    refine wc_seq ?_
    refine wc_region ?_
    refine wl_op rfl (op_load1 (v := v) rfl agg22 (cell_blk hb_b2 rfl) rfl ?_)
    refine wl_op rfl (op_assign rfl rfl ?_)
    refine (wl_done (then_norm ?_))
    refine wc_ret ?_
    intro W40 hBut41 hSz42
    obtain ⟨A43, n44, c45, hv46, hr47, hn48, hnc49⟩ := rd_of_OwnC (but_own hown hBut41 lt_nil) (fun _ => rfl) (by omega)
    subst hv46
    refine ⟨[_], ⟨rfl, trivial⟩, ⟨A43, n44, c45, ?_, hr47, (by omega), (hE_r.trans (hBut41.mono (fun k hk => by cases hk) (Nat.le_refl _)))⟩⟩
    exact rfl
  · intro e W h; exact h.elim

theorem Collect_spec {w : World} {g : Nat} {caps : List Value} {FT : List Nat} {S : List Pol} (hent : Enters Try.prog g) (hseq : SeqC Try.prog g caps (fun p : Pol => [.agg (encP p).toArray]) FT S w.heap.size w) (hFT : ∀ k ∈ FT, k < w.heap.size) (hS : S.length ≤ 100000) : Ret Try.prog 53 #[.func (.func g) #[] caps.toArray] w (fun v w' => ∃ (A1 : Option Addr) (n1 c1 : Nat), v = .slice A1 n1 c1 ∧ RdP w' A1 n1 S ∧ n1 ≤ c1 ∧ But FT w.heap.size w w') := by
  refine ret_of (args := [.func (.func g) #[] caps.toArray]) Try.func53 rfl Try.ntmps53 rfl (rs := [.tmp 2]) rfl ?_
  refine wc_seq ?_
  refine wc_region ?_
  refine wl_op rfl (op_assign rfl rfl ?_)
  refine (wl_done (then_norm ?_))
  refine wc_seq ?_
  refine wc_region ?_
  refine wl_op rfl (op_move rfl rfl ?_)
  refine wl_op rfl (op_call ent76 rfl (AppendSeq_spec hent hseq hFT hS (FT := FT) (S := S)) rfl ?_)
  rintro _ W7 ⟨A11, n12, c13, rfl, hp4, hp5, hp6⟩
  refine wl_op rfl (op_assign rfl rfl ?_)
  refine (wl_done (then_norm ?_))
  refine wc_ret ?_
  refine ⟨[_], ⟨rfl, trivial⟩, ⟨A11, n12, c13, ?_, hp4, hp5, hp6⟩⟩
  exact rfl

theorem overL_nil (ys : List Pol) : overL [] ys = ys := by unfold overL; rfl
theorem overL_l {xs ys : List Pol} {n n2 : Nat} {x y : Pol} (hn : xs.length = n) (hn2 : ys.length = n2) (hx : 0 < xs.length → xs[0]? = some x) (hy : 0 < ys.length → ys[0]? = some y) (h0 : 0 < ((n + n2 : Nat) : Int))
    (h : ((decide (((n2 : Nat) : Int) = 0)) || ((decide (0 < ((n : Nat) : Int))) && (decide (x.kind < y.kind)))) = true) : 0 < n ∧ overL xs ys = x :: overL (xs.drop 1) ys := by
  cases xs with
  | nil => simp at hn h; omega
  | cons a xs =>
    have e := hx (by simp)
    simp at e; subst e
    refine ⟨by simp at hn; omega, ?_⟩
    cases ys with
    | nil => rw [overL]; rfl
    | cons b ys =>
      have e := hy (by simp)
      simp at e; subst e
      have hlt : a.kind < b.kind := by simp at hn hn2 h; omega
      rw [overL, if_pos hlt]; rfl
theorem overL_r {xs ys : List Pol} {n n2 : Nat} {x y : Pol} (hn : xs.length = n) (hn2 : ys.length = n2) (hx : 0 < xs.length → xs[0]? = some x) (hy : 0 < ys.length → ys[0]? = some y)
    (h : ((decide (((n2 : Nat) : Int) = 0)) || ((decide (0 < ((n : Nat) : Int))) && (decide (x.kind < y.kind)))) = false) : 0 < n2 := by
  simp at h; omega
theorem overL_eq {xs ys : List Pol} {n n2 : Nat} {x y : Pol} (hn : xs.length = n) (hn2 : ys.length = n2) (hx : 0 < xs.length → xs[0]? = some x) (hy : 0 < ys.length → ys[0]? = some y) (h2 : 0 < n2)
    (h : ((decide (0 < ((n : Nat) : Int))) && (decide (x.kind = y.kind))) = true) : 0 < n ∧ overL xs ys = y :: overL (xs.drop 1) (ys.drop 1) := by
  cases xs with
  | nil => simp at hn h; omega
  | cons a xs =>
    have e := hx (by simp)
    simp at e; subst e
    refine ⟨by simp at hn; omega, ?_⟩
    cases ys with
    | nil => simp at hn2; omega
    | cons b ys =>
      have e := hy (by simp)
      simp at e; subst e
      have he : a.kind = b.kind := by simp at h; exact h.2
      rw [overL, if_neg (by omega), if_pos he]; rfl
theorem overL_gt {xs ys : List Pol} {n n2 : Nat} {x y : Pol} (hn : xs.length = n) (hn2 : ys.length = n2) (hx : 0 < xs.length → xs[0]? = some x) (hy : 0 < ys.length → ys[0]? = some y) (h2 : 0 < n2)
    (h : ((decide (((n2 : Nat) : Int) = 0)) || ((decide (0 < ((n : Nat) : Int))) && (decide (x.kind < y.kind)))) = false)
    (h' : ((decide (0 < ((n : Nat) : Int))) && (decide (x.kind = y.kind))) = false) : overL xs ys = y :: overL xs (ys.drop 1) := by
  cases ys with
  | nil => simp at hn2; omega
  | cons b ys =>
    have e := hy (by simp)
    simp at e; subst e
    cases xs with
    | nil => rw [overL_nil, overL_nil]; rfl
    | cons a xs =>
      have e := hx (by simp)
      simp at e; subst e
      have h3 : ¬ a.kind = b.kind := by simp at hn h'; exact h' (by omega)
      have h4 : ¬ a.kind < b.kind := by simp at hn h; omega
      rw [overL, if_neg h4, if_neg h3]; rfl
theorem over_end {xs ys : List Pol} {n n2 : Nat} (hn : xs.length = n) (hn2 : ys.length = n2) (h : ¬ 0 < ((n + n2 : Nat) : Int)) : overL xs ys = [] := by
  have e1 : xs = [] := List.eq_nil_of_length_eq_zero (by omega)
  have e2 : ys = [] := List.eq_nil_of_length_eq_zero (by omega)
  subst e1; subst e2; rw [overL_nil]

end Go.Eng
