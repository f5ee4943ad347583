/- Lemmas for a law of the seat: what functions of the program do, each stated as a contract of its own (L1). -/
import Derived.Test.YtbjafckcpkhoaaaS5
import Derived.Test.YtbjafckcpkhoaaaP18s
import Derived.Test.YtbjafckcpkhoaaaAb1
import Derived.Shelf.SlSortCmp.NoneTotal
set_option linter.unusedVariables false
namespace Go.Eng
open Go.RowKit Go.Shelf Go.Proofs Pol

/-! layer 18: slices.SortFunc at policies -/
theorem closure63 (x y : Pol) (W : World) : Calls Try.prog 63 #[.agg (encP x).toArray, .agg (encP y).toArray] W fun e w' => e = .returned (.int .i64 (IntKind.i64.wrap (x.kind - y.kind))) ∧ ∃ q os', w' = Sort.grow (W.drewN q) os' := by
  unfold encP
  go_enter Try.func63, Try.ntmps63
  go_wp2
  all_goals (go_ret; exact ⟨by simp_all; exact (IntWalk.i64_left _).symm, 0, _, by rw [Sort.alloc_eq_grow, Sort.alloc_eq_grow, Sort.grow_grow]; rfl⟩)
abbrev PolR := { p : Pol // 1 ≤ p.kind ∧ p.kind ≤ 13 }
instance : Inhabited PolR := ⟨⟨⟨1, 0⟩, by decide⟩⟩
def cfP (x y : PolR) : Int := IntKind.i64.wrap (x.1.kind - y.1.kind)
theorem ltP (x y : PolR) : ltOf cfP x y = decide (x.1.kind < y.1.kind) := by
  obtain ⟨x, hx⟩ := x
  obtain ⟨y, hy⟩ := y
  unfold ltOf cfP
  have : IntKind.i64.wrap (x.kind - y.kind) = x.kind - y.kind := wrap_i64 (by omega)
  simp only [this]
  exact decide_eq_decide.2 (by omega)
theorem swoP : Sort.SWO (ltOf cfP) where
  irrefl x := by rw [ltP]; simp
  trans x y z h1 h2 := by rw [ltP] at *; simp at *; omega
  ntrans x y z h1 h2 := by rw [ltP] at *; simp at *; omega
theorem lift_pols : ∀ {l : List Pol}, (∀ p ∈ l, 1 ≤ p.kind ∧ p.kind ≤ 13) → ∃ xs : List PolR, xs.map Subtype.val = l := by
  intro l
  induction l with
  | nil => intro _; exact ⟨[], rfl⟩
  | cons x l ih =>
    intro h1
    obtain ⟨xs, hxs⟩ := ih fun y hy => h1 y (List.mem_cons_of_mem _ hy)
    exact ⟨⟨x, h1 x List.mem_cons_self⟩ :: xs, by simp [hxs]⟩

theorem sh_one {w : World} {g : Nat} {o : Obj} (hb : w.heap[g]? = some o) (hc : ctl o = false) : Go.Ab.SH w w (Go.Ab.allM w [(g, o)]) ((g, o) :: []) := by
  refine ⟨rfl, rfl, rfl, ?_, ?_, by simp, ?_, ?_, ?_⟩
  · intro k o' hk
    unfold Go.Ab.allM at hk
    split at hk
    · cases hk
    · cases h : w.heap[k]? with
      | none => rw [h] at hk; cases hk
      | some q => rw [h] at hk; simp only [Option.filter] at hk; split at hk <;> simp_all
  · intro p hp; simp at hp; subst hp; exact hb
  · intro p hp; simp at hp; subst hp; unfold Go.Ab.allM; simp
  · intro p hp; simp at hp; subst hp; exact hc
  · intro k o' hk
    unfold Go.Ab.allM at hk
    split at hk
    · cases hk
    · cases h : w.heap[k]? with
      | none => rw [h] at hk; cases hk
      | some q => rw [h] at hk; simp only [Option.filter] at hk; split at hk <;> simp_all
theorem below_one {w w' : World} {g base : Nat} {o o' : Obj} (hbase : base ≤ g) (hbw : base ≤ w.heap.size) (h : Go.Ab.SH w w' (Go.Ab.allM w [(g, o)]) ((g, o') :: [])) (hd : DK none w w') (hs : w.heap.size ≤ w'.heap.size) : Below base w w' := by
  refine ⟨h.os, h.tape, h.output, hs, fun k hk => ?_⟩
  have hkl : k < w.heap.size := by omega
  have hk' : w.heap[k]? = some (w.heap[k]'hkl) := Array.getElem?_eq_getElem hkl
  rw [hk']
  cases hc : ctl (w.heap[k]'hkl) with
  | true => exact hd k _ hk' hc (by simp)
  | false =>
    refine h.fz k _ ?_
    unfold Go.Ab.allM
    rw [if_neg (by simp; omega), hk']
    simp [Option.filter, hc]
/-- slices.SortFunc(s, by kind). -/
theorem Sort_spec {w : World} {base : Nat} {v : Value} {xs : List Pol} (hown : Own encP base 46 2 w v xs) (hx : ∀ p ∈ xs, 1 ≤ p.kind ∧ p.kind ≤ 13) (hn : xs.length ≤ 1000) (hbw : base ≤ w.heap.size) : Ret Try.prog 78 #[v, .func (.func 63) #[] #[]] w fun r w' => r = .tuple #[] ∧ ∃ ys : List Pol, ys.Perm xs ∧ ys.Pairwise (fun a b => a.kind ≤ b.kind) ∧ Own encP base 46 2 w' v ys ∧ Below base w w' := by
  obtain ⟨hl, ⟨rfl, h0⟩ | ⟨g, cap, cur, rfl, hbg, hb, hnc, hcm, hcs, htk⟩⟩ := hown
  · have : xs = [] := List.eq_nil_of_length_eq_zero h0
    subst this
    refine Calls.mono (AnyF.slices_SortFunc_none Try.laysSortF none 0 _ w) ?_
    rintro e w' ⟨rfl, rfl⟩
    exact ⟨_, rfl, ⟨DK.refl, Nat.le_refl _⟩, rfl, [], List.Perm.refl _, List.Pairwise.nil, own_nil _ _ _ _ _, Below.refl _ _⟩
  · obtain ⟨zs, rfl⟩ := lift_pols hx
    simp only [List.length_map] at hnc hn htk hl
    have hflat : ∀ us : List PolR, (Go.Sort.flatK (fun a : PolR => encP a.1) 2 us.toArray).toList = (us.map Subtype.val).flatMap encP := fun us => by
      rw [Go.Ab.flatK_list (enc := fun a : PolR => encP a.1) (k := 2) (fun x => rfl), List.flatMap_def, List.map_map]; rfl
    have hlen : ∀ us : List PolR, ((us.map Subtype.val).flatMap encP).length = us.length * 2 := fun us => by
      induction us with
      | nil => rfl
      | cons a us ih => simp only [List.map_cons, List.flatMap_cons, List.length_append, ih, List.length_cons]; simp; omega
    have hsh := sh_one hb rfl
    have hv : cur.toList.take ((zs.map Subtype.val).flatMap encP).length = (zs.map Subtype.val).flatMap encP := by rw [hlen]; exact htk
    have hle : ((zs.map Subtype.val).flatMap encP).length ≤ cur.size := by rw [hlen, hcs]; exact Nat.mul_le_mul_right _ hnc
    have hH : Go.Sort.HoldsK (fun a : PolR => encP a.1) 2 w g 0 zs.toArray := by
      unfold Go.Sort.HoldsK
      have : Go.Sort.flatK (fun a : PolR => encP a.1) 2 zs.toArray = ((zs.map Subtype.val).flatMap encP).toArray := by rw [← hflat zs]
      rw [this]; exact (Go.Ab.row_putV (ys := (zs.map Subtype.val).flatMap encP) hsh hv hle rfl).1
    have hgl := (Array.getElem?_eq_some_iff.1 hb).1
    simp only [List.length_map]
    refine Calls.mono (AnyQ.slices_SortFunc Try.laysSortF 2 Try.isAgg46 Try.sizeOf46 (fun a : PolR => encP a.1) (fun _ => rfl) (fun x v hv => by simp [encP] at hv; rcases hv with rfl | rfl <;> rfl) cfP swoP 63 #[] g 0 cap zs.toArray w (enters_of Try.func63 (by kernel_rfl) rfl) (fun _ _ _ _ x y => closure63 x.1 y.1 _) hH hgl (by simp; omega)) ?_
    rintro e w' ⟨rfl, d', n, os, hp, hs, rfl⟩
    obtain ⟨p1, _, p3⟩ := hp
    have hd : d'.toList.Perm zs := by
      have e1 : d'.extract 0 zs.toArray.size = d' := by rw [← p1]; simp
      rw [e1] at p3
      simpa using p3
    have hdl := hd.length_eq
    have hdl2 : ((d'.toList.map Subtype.val).flatMap encP).length = ((zs.map Subtype.val).flatMap encP).length := by rw [hlen, hlen, hdl]
    obtain ⟨_, _, g3⟩ := Go.Ab.row_putV (ys := (d'.toList.map Subtype.val).flatMap encP) hsh hv hle hdl2
    obtain ⟨cs', k1, k2, k4, k5⟩ := g3 n os
    have hw : sortWorldK (fun a : PolR => encP a.1) 2 w g 0 n d' os = Sort.grow (Sort.putRow id (Sort.ahead w n) g 0 (((d'.toList.map Subtype.val).flatMap encP)).toArray) os := by
      unfold sortWorldK Go.Sort.putRowK
      rw [← hflat d'.toList]
    rw [← hw] at k4 k5
    have hsz : w.heap.size ≤ (sortWorldK (fun a : PolR => encP a.1) 2 w g 0 n d' os).heap.size := by rw [hw]; simp [Sort.putRow, Sort.mapBlock, Sort.ahead]
    refine ⟨_, rfl, ⟨k5, hsz⟩, rfl, d'.toList.map Subtype.val, hd.map _, ?_, ⟨by rw [hlen, List.length_map], .inr ⟨g, cap, cs', by rw [List.length_map, hdl], hbg, k4.own (g, _) (by simp), by rw [List.length_map, hdl]; exact hnc, hcm, by rw [k1]; exact hcs, ?_⟩⟩, below_one hbg hbw k4 k5 hsz⟩
    · rw [List.pairwise_map, List.pairwise_iff_getElem]
      intro i j hi hj hij
      have hsz' : d'.size = zs.length := by rw [p1]; simp
      have h4 := hs i j (Nat.zero_le _) hij (by simp at hj; simp; omega)
      rw [ltP] at h4
      have hi' : i < d'.size := by simpa using hi
      have hj' : j < d'.size := by simpa using hj
      rw [getElem!_pos d' i hi', getElem!_pos d' j hj'] at h4
      have h5 := of_decide_eq_false h4
      simp only [Array.getElem_toList]
      omega
    · rw [List.length_map, hdl, ← hlen zs, k2]
end Go.Eng

set_option linter.unusedVariables false
set_option maxRecDepth 100000
namespace Go.Eng
open Go.RowKit Go.Shelf Go.Proofs Pol

theorem AppendSeqO_spec {w : World} {g : Nat} {caps : List Value} {FT : List Nat} {S : List Pol} (hent : Enters Try.prog g) (hseq : SeqC Try.prog g caps (fun p : Pol => [.agg (encP p).toArray]) FT S w.heap.size w) (hFT : ∀ k ∈ FT, k < w.heap.size) (hS : S.length ≤ 100000) : Ret Try.prog 76 #[.slice none 0 0, .func (.func g) #[] caps.toArray] w (fun v w' => Own encP w.heap.size 46 2 w' v S ∧ But FT w.heap.size w w') := by
  refine ret_ofM (args := [.slice none 0 0, .func (.func g) #[] caps.toArray]) Try.func76 rfl Try.ntmps76 rfl (rs := [.tmp 4]) rfl ?_
  refine wc_seq ?_
  refine wc_region ?_
  refine wl_op rfl (op_box rfl rfl ?_)
  intro W1 b2 hN3
  have hb4 : W1.heap[b2]? = some (.cells #[.slice none 0 0] 22 (0, 0)) := hN3.blk
  refine wl_op rfl (op_assign rfl rfl ?_)
  refine (wl_done (then_norm ?_))
  refine wc_seq ?_
  refine wc_seq ?_
  refine wc_region ?_
  refine wl_op rfl (op_move rfl rfl ?_)
  refine (wl_done (then_norm ?_))
  refine wc_block ?_
  have hB5 : Below w.heap.size w W1 := (below_new (Below.refl _ _) hN3)
  have hB6 : Below w.heap.size w W1 := (below_new (Below.refl _ _) hN3)
  refine wc_range (encs := (fun p : Pol => [.agg (encP p).toArray])) (FT := FT) (S := S) (n0 := w.heap.size) rfl rfl rfl hent (hseq.ext hB6) (fun _ => rfl) rfl hB6.size (fun k hk => Nat.lt_of_lt_of_le (hFT k hk) hB6.size)
    (fun pre W => ∃ (v : Value), (W.heap[b2]? = some (.cells #[v] 22 (0, 0))) ∧ (Own encP w.heap.size 46 2 W v pre) ∧ (some b2 ≠ v.ownBlock) ∧ But FT w.heap.size w W)
    (fun _ _ => False)
    (by rintro pre W1 W2 ⟨v, hb_b2, hown, hne, hE_r⟩ hB; exact ⟨v, (but_blk hb_b2 hB (nin_ge hFT (Nat.le_of_eq hN3.eq.symm))), (but_own hown hB hFT), hne, (hE_r.trans (hB.mono (fun _ h => h) hB5.size))⟩)
    (fun _ _ _ h _ => h)
    ⟨.slice none 0 0, hb4, (own_nil _ _ _ _ _), own_ne_nil, (But.of_below hB6)⟩ ?_ ?_ ?_
  · rintro l0 pre p rest W7 hS ⟨v, hb_b2, hown, hne, hE_r⟩ hsz
    refine WC.sub [(2, .pointer (some ⟨b2, 0, none⟩)), (4, .slice none 0 0), (7, .agg #[.int .i64 p.kind, .int .i64 p.val])] ⟨rfl, rfl, rfl, trivial⟩ ?_
    refine wc_region ?_
    refine wl_op rfl (op_alloc zero46 rfl ?_)
    intro W8 b9 hN10
    have hb11 : W8.heap[b9]? = some (.cells #[.int .i64 0, .int .i64 0] 46 (0, 0)) := hN10.blk
    refine wl_op rfl (op_storeW rfl rfl sz46 hb11 rfl rfl ?_)
    intro W12 hP13 hb14
    have hb14 : W12.heap[b9]? = some (.cells #[.int .i64 p.kind, .int .i64 p.val] 46 (0, 0)) := hb14
    refine (wl_done (then_norm ?_))
    refine ⟨(hP13.below ((Below.refl _ _).trans (hN10.ext.mono (Nat.le_trans hB6.size hsz))) (Nat.le_trans (Nat.le_trans hB6.size hsz) (Nat.le_of_eq hN10.eq.symm))), ?_⟩
    intro W15 hBut16 hSz17
    refine wc_block ?_
    refine wc_region ?_
    have hne18 : b2 ≠ b9 := ne_new hb_b2 hN10
    have hb19 : W15.heap[b2]? = some (.cells #[v] 22 (0, 0)) := (but_blk (hP13.blk (blk_ext hb_b2 hN10.ext) hne18) hBut16 nin_nil)
    refine wl_op rfl (op_load1 (v := v) rfl agg22 (cell_blk hb19 rfl) rfl ?_)
    have hb20 : W15.heap[b9]? = some (.cells #[.int .i64 p.kind, .int .i64 p.val] 46 (0, 0)) := (but_blk hb14 hBut16 nin_nil)
    refine wl_op rfl (op_loadN (vs := [.int .i64 p.kind, .int .i64 p.val]) rfl agg46 sz46 rfl (cells_blk hb20) rfl ?_)
    refine wl_op rfl (op_buildSlice (cs := #[.int .i64 p.kind, .int .i64 p.val]) (e := 46) rfl (fun w => by kernel_rfl) rfl ?_)
    intro W21 b22 hN23
    have hb24 : W21.heap[b22]? = some (.cells #[.int .i64 p.kind, .int .i64 p.val] 46 (0, 0)) := hN23.blk
    have hb25 : W21.heap[b2]? = some (.cells #[v] 22 (0, 0)) := (blk_ext (but_blk (hP13.blk (blk_ext hb_b2 hN10.ext) hne18) hBut16 nin_nil) hN23.ext)
    refine wl_op rfl (op_appendP (enc := encP) (⟨p.kind, p.val⟩ : Pol) rfl rfl app22 rfl rfl (Own.ext (but_own (own_put (Own.ext hown hN10.ext) hP13 (own_ne_new hown hN10)) hBut16 lt_nil) hN23.ext) (cells_blk hb24) rfl rfl (by (have := congrArg List.length hS; simp at this; omega)) (by (have := congrArg List.length hS; simp at this; omega)) (Nat.le_trans (Nat.le_trans (Nat.le_trans (Nat.le_trans (Nat.le_trans hB6.size hsz) hN10.ext.size) (Nat.le_of_eq hP13.size.symm)) hBut16.size) hN23.ext.size) rfl ?_)
    intro v26 W27 ho28 hg29 hob30
    obtain ⟨A31, n32, c33, hv34⟩ := own_slice ho28
    subst hv34
    have hb35 : W27.heap[b2]? = some (.cells #[v] 22 (0, 0)) := (blk_grown (blk_ext hb19 hN23.ext) hg29 hne)
    refine wl_op rfl (op_storeW rfl rfl sz22 hb35 rfl rfl ?_)
    intro W36 hP37 hb38
    have hb38 : W36.heap[b2]? = some (.cells #[(.slice A31 n32 c33)] 22 (0, 0)) := hb38
    refine (wl_done (block_norm ?_))
    exact rq_norm (hP37.below (((Below.refl _ _).trans (hN23.ext.mono (hSz17 ▸ (Nat.le_trans (Nat.le_trans hB6.size hsz) (hP13.below ((Below.refl _ _).trans (hN10.ext.mono (Nat.le_trans hB6.size hsz))) (Nat.le_trans (Nat.le_trans hB6.size hsz) (Nat.le_of_eq hN10.eq.symm))).size)))).grown hg29 (Nat.le_trans (hSz17 ▸ (Nat.le_trans (Nat.le_trans hB6.size hsz) (hP13.below ((Below.refl _ _).trans (hN10.ext.mono (Nat.le_trans hB6.size hsz))) (Nat.le_trans (Nat.le_trans hB6.size hsz) (Nat.le_of_eq hN10.eq.symm))).size)) ((Below.refl _ _).trans (hN23.ext.mono (hSz17 ▸ (Nat.le_trans (Nat.le_trans hB6.size hsz) (hP13.below ((Below.refl _ _).trans (hN10.ext.mono (Nat.le_trans hB6.size hsz))) (Nat.le_trans (Nat.le_trans hB6.size hsz) (Nat.le_of_eq hN10.eq.symm))).size)))).size) (fun k hk => Nat.le_trans (Nat.le_refl _) (World.ownsRow.lt (Own.ext (but_own (own_put (Own.ext hown hN10.ext) hP13 (own_ne_new hown hN10)) hBut16 lt_nil) hN23.ext) k hk).1)) (Nat.le_of_eq hN3.eq.symm)) ⟨(.slice A31 n32 c33), hb38, (own_put ho28 hP37 (own_ne_step hne hob30 (blk_lt hb25))), (own_ne_step hne hob30 (blk_lt hb25)), ((((((hE_r.trans (But.of_below hN10.ext)).put_ge hP13 (Nat.le_trans (Nat.le_trans hB6.size hsz) (Nat.le_of_eq hN10.eq.symm))).trans (hBut16.mono (fun k hk => by cases hk) hB6.size)).trans (But.of_below hN23.ext)).grow_ge hg29 (fun k hk => Nat.le_trans (Nat.le_refl _) (World.ownsRow.lt (Own.ext (but_own (own_put (Own.ext hown hN10.ext) hP13 (own_ne_new hown hN10)) hBut16 lt_nil) hN23.ext) k hk).1)).put_ge hP37 (Nat.le_of_eq hN3.eq.symm))⟩
  · rintro W39 ⟨v, hb_b2, hown, hne, hE_r⟩ hsz
    refine (block_norm (then_norm ?_))
    refine wc_seq ?_
    refine wc_region ?_
    refine wl_op rfl (op_load1 (v := v) rfl agg22 (cell_blk hb_b2 rfl) rfl ?_)
    refine wl_op rfl (op_assign rfl rfl ?_)
    refine (wl_done (then_norm ?_))
    refine wc_ret ?_
    intro W40 hBut41 hSz42
    refine ⟨[_], ⟨rfl, trivial⟩, ⟨but_own hown hBut41 lt_nil, (hE_r.trans (hBut41.mono (fun k hk => by cases hk) (Nat.le_refl _)))⟩⟩
  · intro e W h; exact h.elim

theorem CollectO_spec {w : World} {g : Nat} {caps : List Value} {FT : List Nat} {S : List Pol} (hent : Enters Try.prog g) (hseq : SeqC Try.prog g caps (fun p : Pol => [.agg (encP p).toArray]) FT S w.heap.size w) (hFT : ∀ k ∈ FT, k < w.heap.size) (hS : S.length ≤ 100000) : Ret Try.prog 53 #[.func (.func g) #[] caps.toArray] w (fun v w' => Own encP w.heap.size 46 2 w' v S ∧ But FT w.heap.size w w') := by
  refine ret_of (args := [.func (.func g) #[] caps.toArray]) Try.func53 rfl Try.ntmps53 rfl (rs := [.tmp 2]) rfl ?_
  refine wc_seq ?_
  refine wc_region ?_
  refine wl_op rfl (op_assign rfl rfl ?_)
  refine (wl_done (then_norm ?_))
  refine wc_seq ?_
  refine wc_region ?_
  refine wl_op rfl (op_move rfl rfl ?_)
  refine wl_op rfl (op_call ent76 rfl (AppendSeqO_spec hent hseq hFT hS (FT := FT) (S := S)) rfl ?_)
  rintro v7 W7 ⟨hp4, hp5⟩
  refine wl_op rfl (op_assign rfl rfl ?_)
  refine (wl_done (then_norm ?_))
  refine wc_ret ?_
  exact ⟨[v7], ⟨rfl, trivial⟩, ⟨hp4, hp5⟩⟩

end Go.Eng

set_option linter.unusedVariables false
set_option maxRecDepth 100000
namespace Go.Eng
open Go.RowKit Go.Shelf Go.Proofs Pol

theorem ent78 : Enters Try.prog 78 := enters_of Try.func78 (by kernel_rfl) rfl
theorem ent61 : Enters Try.prog 61 := enters_of Try.func61 (by kernel_rfl) rfl
theorem ent62 : Enters Try.prog 62 := enters_of Try.func62 (by kernel_rfl) rfl
theorem ent79 : Enters Try.prog 79 := enters_of Try.func79 (by kernel_rfl) rfl
theorem Sorted_spec {w : World} {g : Nat} {caps : List Value} {S : List Pol} (hent : Enters Try.prog g) (hseq : SeqC Try.prog g caps (fun p : Pol => [.agg (encP p).toArray]) [] S w.heap.size w) (hS : S.length ≤ 1000) (hx : ∀ p ∈ S, 1 ≤ p.kind ∧ p.kind ≤ 13) :
    Ret Try.prog 61 #[.func (.func g) #[] caps.toArray, .func (.func 63) #[] #[]] w (fun v w' => ∃ (A1 : Option Addr) (n1 c1 : Nat) (ys : List Pol), v = .slice A1 n1 c1 ∧ ys.Perm S ∧ ys.Pairwise (fun a b => a.kind ≤ b.kind) ∧ RdP w' A1 n1 ys ∧ n1 ≤ c1 ∧ But [] w.heap.size w w') := by
  refine ret_of (args := [.func (.func g) #[] caps.toArray, .func (.func 63) #[] #[]]) Try.func61 rfl Try.ntmps61 rfl (rs := [.tmp 4]) rfl ?_
  refine wc_seq ?_
  refine wc_region ?_
  refine wl_op rfl (op_assign rfl rfl ?_)
  refine (wl_done (then_norm ?_))
  refine wc_seq ?_
  refine wc_region ?_
  refine wl_op rfl (op_move rfl rfl ?_)
  refine wl_op rfl (op_call ent53 rfl (CollectO_spec hent hseq (fun k hk => by cases hk) (by omega)) rfl ?_)
  rintro v7 W7 ⟨hp4, hp5⟩
  refine wl_op rfl (op_assign rfl rfl ?_)
  refine (wl_done (then_norm ?_))
  refine wc_seq ?_
  refine wc_region ?_
  refine wl_op rfl (op_move rfl rfl ?_)
  refine wl_op rfl (op_move rfl rfl ?_)
  refine wl_op rfl (op_call ent78 rfl (Sort_spec hp4 hx hS hp5.size) rfl ?_)
  rintro v8 W8 ⟨rfl, ys, hy1, hy2, hy3, hy4⟩
  refine (wl_done (then_norm ?_))
  refine wc_seq ?_
  refine wc_region ?_
  refine wl_op rfl (op_move rfl rfl ?_)
  refine wl_op rfl (op_assign rfl rfl ?_)
  refine (wl_done (then_norm ?_))
  refine wc_ret ?_
  have hyl := hy1.length_eq
  obtain ⟨A9, n9, c9, hv, hr, hn, hnc⟩ := rd_of_OwnC hy3 (fun _ => rfl) (by omega)
  subst hv
  exact ⟨[_], ⟨rfl, trivial⟩, ⟨A9, n9, c9, ys, rfl, hy1, hy2, hr, hnc, ⟨hy4.os.trans hp5.os, hy4.tape.trans hp5.tape, hy4.output.trans hp5.output, Nat.le_trans hp5.size hy4.size, fun k o hk hn hc => (hy4.block k (Array.getElem?_eq_some_iff.1 hk).1).trans (hp5.same k o hk hn hc)⟩⟩⟩
end Go.Eng

set_option linter.unusedVariables false
set_option maxRecDepth 100000
namespace Go.Eng
open Go.RowKit Go.Shelf Go.Proofs Pol

theorem srt_sub {ys : List Pol} : ∀ {a : List Pol}, srt a → ys.Pairwise (fun a b => a.kind ≤ b.kind) → (∀ z, z ∈ a → z ∈ ys) → a.Sublist ys := by
  induction ys with
  | nil =>
    intro a _ _ h
    cases a with
    | nil => exact List.Sublist.refl _
    | cons x a => exact absurd (h x List.mem_cons_self) (by simp)
  | cons y t ih =>
    intro a ha hy h
    rw [List.pairwise_cons] at hy
    cases a with
    | nil => exact List.nil_sublist _
    | cons x a =>
      rw [srt_cons] at ha
      by_cases e : x = y
      · subst e
        refine List.Sublist.cons_cons x (ih ha.2 hy.2 fun z hz => ?_)
        rcases List.mem_cons.1 (h z (List.mem_cons_of_mem _ hz)) with e | e
        · have := ha.1 z hz; rw [e] at this; omega
        · exact e
      · have hx : x ∈ t := by
          rcases List.mem_cons.1 (h x List.mem_cons_self) with e2 | e2
          · exact absurd e2 e
          · exact e2
        refine List.Sublist.cons _ (ih (srt_cons.2 ha) hy.2 fun z hz => ?_)
        rcases List.mem_cons.1 hz with e2 | e2
        · rw [e2]; exact hx
        · rcases List.mem_cons.1 (h z hz) with e3 | e3
          · have h1 := ha.1 z e2
            have h2 := hy.1 x hx
            rw [e3] at h1; omega
          · exact e3
theorem sorted_gath {l ys : List Pol} (hp : ys.Perm l) (hs : ys.Pairwise (fun a b => a.kind ≤ b.kind)) (hv : ∀ z, z ∈ l → validB z = true) : (validSet ys = true → gath l = ys ∧ (gath l).length = l.length) ∧ (validSet ys = false → ¬ (gath l).length = l.length) := by
  constructor
  · intro h
    rw [valid_iff] at h
    have e : gath l = ys := by
      refine srt_ext (gathK_srt _ _).1 h.1 fun z => ?_
      rw [gath_mem]
      constructor
      · rintro ⟨_, h2⟩; exact hp.mem_iff.2 (lastOf_mem h2).1
      · intro hz
        have hzl := hp.mem_iff.1 hz
        refine ⟨valid_kind (hv z hzl), ?_⟩
        cases hl : lastOf l z.kind with
        | none =>
          have : l.filter (fun p => decide (p.kind = z.kind)) = [] := List.getLast?_eq_none_iff.1 hl
          rw [List.filter_eq_nil_iff] at this
          exact absurd (decide_eq_true rfl) (this z hzl)
        | some y =>
          obtain ⟨h1, h2⟩ := lastOf_mem hl
          rw [srt_unique h.1 (hp.mem_iff.2 h1) hz h2]
    exact ⟨e, by rw [e, hp.length_eq]⟩
  · intro h hl
    have hsub := srt_sub (gathK_srt l 13).1 hs fun z hz => hp.mem_iff.2 (lastOf_mem (gath_mem.1 hz).2).1
    have e := hsub.eq_of_length (by rw [hp.length_eq]; exact hl)
    have : validSet ys = true := by
      rw [valid_iff, ← e]
      exact ⟨(gathK_srt l 13).1, fun z hz => hv z (lastOf_mem (gath_mem.1 hz).2).1⟩
    rw [this] at h; cases h
theorem ent60 : Enters Try.prog 60 := enters_of Try.func60 (by kernel_rfl) rfl
theorem any_bad {l : List Pol} : l.any (fun p => !validB p) = !allB l := by
  induction l with
  | nil => rfl
  | cons x l ih => simp only [List.any_cons, ih, allB, List.all_cons]; cases validB x <;> simp
theorem Of_spec {w : World} {A : Option Addr} {n c : Nat} {l : List Pol} (hs : RdP w A n l) (hn : n ≤ 1000) : Ret Try.prog 22 #[.slice A n c] w (fun v w' => ∃ (A1 : Option Addr) (n1 c1 : Nat), v = .tuple #[.slice A1 n1 c1, .int .i64 (ofE l)] ∧ RdP w' A1 n1 (ofL l) ∧ Below w.heap.size w w') := by
  have hln := hs.len
  refine ret_of (args := [.slice A n c]) Try.func22 rfl Try.ntmps22 rfl (rs := [.tmp 2, .tmp 3]) rfl ?_
  refine wc_seq ?_
  refine wc_region ?_
  refine wl_op rfl (op_assign rfl rfl ?_)
  refine wl_op rfl (op_assign rfl rfl ?_)
  refine (wl_done (then_norm ?_))
  refine wc_seq ?_
  refine wc_seq ?_
  refine wc_text [(0, .slice A n c), (2, .slice none 0 0), (3, .int .i64 0)] ⟨rfl, rfl, rfl, trivial⟩ [fun v _ => v = .slice A n c, fun v _ => v = .int .i64 ((n : Nat) : Int), fun v _ => v = .bool (decide ((100 : Int) < ((n : Nat) : Int))), fun v _ => v = .bool (decide ((100 : Int) < ((n : Nat) : Int))), fun v _ => v = (bif (!(decide ((100 : Int) < ((n : Nat) : Int)))) then (.slice A n c) else undef), fun v _ => v = (bif (!(decide ((100 : Int) < ((n : Nat) : Int)))) then (.bool (!allB l)) else undef), fun v _ => v = .bool ((decide ((100 : Int) < ((n : Nat) : Int))) || (!allB l))] [[], [0], [1], [2], [3], [3, 4], [3, 5]] [6] rfl rfl rfl ⟨fun _ _ _ _ h => h, fun _ _ _ _ h => h, fun _ _ _ _ h => h, fun _ _ _ _ h => h, fun _ _ _ _ h => h, fun _ _ _ _ h => h, fun _ _ _ _ h => h, trivial⟩ ⟨?_, ?_, ?_, ?_, ?_, ?_, ?_, trivial⟩ ?_
  · intro W1 hW1
    refine gather_nil ?_
    refine opg_none rfl ?_
    exact op_move rfl rfl ⟨told rfl rfl rfl, (Below.refl _ _)⟩
  · intro W1 hW1
    rintro _ rfl
    refine gather_nil ?_
    refine opg_none rfl ?_
    exact op_len_slice rfl rfl und22 rfl rfl ⟨told rfl rfl rfl, (Below.refl _ _)⟩
  · intro W1 hW1
    rintro _ rfl
    refine gather_nil ?_
    refine opg_none rfl ?_
    exact op_gtr rfl rfl rfl ⟨told rfl rfl rfl, (Below.refl _ _)⟩
  · intro W1 hW1
    rintro _ rfl
    refine gather_nil ?_
    refine opg_none rfl ?_
    exact op_move rfl rfl ⟨told rfl rfl rfl, (Below.refl _ _)⟩
  · intro W1 hW1
    rintro _ rfl
    refine gather_nil ?_
    refine opg_f1 rfl rfl (fun hg => ?_) (fun h => by rw [h, cond_false])
    exact op_move rfl rfl ⟨told rfl rfl (by rw [hg, cond_true]), (Below.refl _ _)⟩
  · intro W1 hW1
    rintro _ rfl
    intro v4 (hv4 : v4 = bif (!(decide ((100 : Int) < ((n : Nat) : Int)))) then (.slice A n c) else undef)
    refine gather_nil ?_
    refine opg_f1 rfl rfl (fun hg => ?_) (fun h => by rw [h, cond_false])
    obtain rfl : v4 = .slice A n c := by rw [hv4, hg, cond_true]
    have hB : Below w.heap.size w W1 := below_step (Below.refl _ _) hW1
    refine op_call ent45 rfl (ContainsFunc_spec (hs.ext (flat_lifts _) hB) ent60 (fun W a b hm hW => Of1_spec) (keep := fun p => !validB p)) rfl ?_
    rintro _ W2 ⟨rfl, hE⟩
    rw [any_bad]
    exact ⟨told rfl rfl (by rw [hg, cond_true]), hE⟩
  · intro W1 hW1
    rintro _ rfl
    intro v5 (hv5 : v5 = bif (!(decide ((100 : Int) < ((n : Nat) : Int)))) then (.bool (!allB l)) else undef)
    refine gather_nil ?_
    refine opg_none rfl ?_
    exact op_or rfl rfl rfl (fun h => by rw [hv5, (not_i h), cond_true]) rfl ⟨told rfl rfl rfl, (Below.refl _ _)⟩
  intro W3 hW3
  rintro _ rfl
  refine gather_nil ?_
  refine (then_norm ?_)
  have hB3 : Below w.heap.size w W3 := below_step (Below.refl _ _) hW3
  refine wc_cond (b := (decide ((100 : Int) < ((n : Nat) : Int))) || (!allB l)) rfl (fun hc => ?_) (fun hc => ?_)
  · have hno : ¬ ofOk l := fun h => by
      rw [Bool.or_eq_true, decide_eq_true_iff, h.1] at hc
      rcases hc with hc | hc
      · have := h.2; omega
      · cases hc
    refine wc_seq ?_
    refine wc_region ?_
    refine wl_op rfl (op_assign rfl rfl ?_)
    refine wl_op rfl (op_assign rfl rfl ?_)
    refine (wl_done (then_norm ?_))
    refine wc_ret ?_
    refine (then_ret ?_)
    refine ⟨[_, _], ⟨rfl, rfl, trivial⟩, ⟨none, 0, 0, ?_, (by rw [(of_bad hno).1]; exact rd_nil _ _ _), hB3⟩⟩
    rw [(of_bad hno).2]
    rfl
  · have hok : ofOk l := by
      rw [Bool.or_eq_false_iff, decide_eq_false_iff_not] at hc
      exact ⟨by simpa using hc.2, by omega⟩
    have hval : ∀ z, z ∈ l → validB z = true := List.all_eq_true.1 hok.1
    refine wc_skip ?_
    refine (then_norm ?_)
    refine wc_seq ?_
    refine wc_region ?_
    refine wl_op rfl (op_move rfl rfl ?_)
    refine wl_op rfl (op_call ent62 rfl Values_spec rfl ?_)
    rintro _ W4 ⟨b1, rfl, hb1, hge, hE4⟩
    have hB4 : Below w.heap.size w W4 := below_step hB3 hE4
    refine wl_op rfl (op_call ent61 rfl (Sorted_spec (caps := [.pointer (some ⟨b1, 0, none⟩)]) ent79 (values1_seq hE4 (hs.ext (flat_lifts _) hB3) hb1 hge) (by omega) (fun p hp => valid_kind (hval p hp))) rfl ?_)
    rintro _ W5 ⟨A1, n1, c1, ys, rfl, hy1, hy2, hy3, hy4, hE5⟩
    have hB5 : Below w.heap.size w W5 := ⟨hE5.os.trans hB4.os, hE5.tape.trans hB4.tape, hE5.output.trans hB4.output, Nat.le_trans hB4.size hE5.size, fun k hk => by
      have hk4 : k < W4.heap.size := Nat.lt_of_lt_of_le hk hB4.size
      have := hE5.same k _ (Array.getElem?_eq_getElem hk4) (by simp) (.inr hk4)
      rw [this, ← Array.getElem?_eq_getElem hk4]
      exact hB4.block k hk⟩
    obtain ⟨g1, g2⟩ := sorted_gath hy1 hy2 hval
    refine wl_op rfl (op_assign rfl rfl ?_)
    refine (wl_done (then_norm ?_))
    refine wc_seq ?_
    refine wc_seq ?_
    refine wc_region ?_
    refine wl_op rfl (op_move rfl rfl ?_)
    refine wl_op rfl (op_call ent27 rfl (ValidSet_spec hy3) rfl ?_)
    rintro _ W6 ⟨rfl, hE6⟩
    refine wl_op rfl (op_not rfl rfl ?_)
    refine (wl_done (then_norm ?_))
    have hB6 : Below w.heap.size w W6 := below_step hB5 hE6
    refine wc_cond (b := !(validSet ys)) rfl (fun hc => ?_) (fun hc => ?_)
    · have hd := of_dup hok (g2 (by simpa using hc))
      refine wc_seq ?_
      refine wc_region ?_
      refine wl_op rfl (op_assign rfl rfl ?_)
      refine wl_op rfl (op_assign rfl rfl ?_)
      refine (wl_done (then_norm ?_))
      refine wc_ret ?_
      refine (then_ret ?_)
      refine ⟨[_, _], ⟨rfl, rfl, trivial⟩, ⟨none, 0, 0, ?_, (by rw [hd.1]; exact rd_nil _ _ _), hB6⟩⟩
      rw [hd.2]
      rfl
    · have hg := g1 (by simpa using hc)
      have hd := of_fine hok hg.2
      refine wc_skip ?_
      refine (then_norm ?_)
      refine wc_seq ?_
      refine wc_region ?_
      refine wl_op rfl (op_move rfl rfl ?_)
      refine wl_op rfl (op_assign rfl rfl ?_)
      refine wl_op rfl (op_assign rfl rfl ?_)
      refine (wl_done (then_norm ?_))
      refine wc_ret ?_
      refine ⟨[_, _], ⟨rfl, rfl, trivial⟩, ⟨A1, n1, c1, ?_, (by rw [hd.1, hg.1]; exact hy3.ext (flat_lifts _) hE6), hB6⟩⟩
      rw [hd.2]
      rfl
end Go.Eng
