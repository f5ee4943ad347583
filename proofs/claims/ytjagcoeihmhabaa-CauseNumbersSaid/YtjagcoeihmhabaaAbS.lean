/- Lemmas for a law of the seat: what functions of the program do, each stated as a contract of its own (module AbS). -/
import Derived.Test.YtjagcoeihmhabaaAbR
set_option linter.unusedVariables false
set_option linter.unusedSimpArgs false
namespace Go.Ab
open Go.RowKit Go.Shelf Go.Proofs Go.Eng

/-! own slices in an own slice -/
/-- An element of a row is written. -/
theorem slrep_set {m : Mem} {ρ : List Value} {E b n' c' z o n : Nat} {t : Ty} {xs : List t.den} {e e' : t.den} {ds : List AV} {v : Value} {f : Frag} (H : SlRep m E t xs (.slice (some ⟨b, 0, none⟩) n' c') f) (he : xs[z]? = some e) (h5 : RepL m ρ ds v.cells.toList) (hn : ds.length = n) (hle : o + n ≤ t.cells) (hno : t.noArr = true) (hcs : over (expl t e) o ds = expl t e') :
    ∃ cs, f = [(b, .cells cs E (0, 0))] ∧ z * t.cells + o + v.cells.size ≤ cs.size ∧ SlRep m E t (xs.set z e') (.slice (some ⟨b, 0, none⟩) n' c') [(b, .cells (splice cs (z * t.cells + o) v.cells.toList) E (0, 0))] := by
  obtain ⟨h0, ⟨_, h8, _⟩ | ⟨b', c, cs, vs, h8, rfl, h9, h10, h11, h12, h13⟩⟩ := H
  · cases h8
  cases h8
  have hvl : v.cells.size = n := by rw [← hn]; simpa using h5.len
  have hzl := (List.getElem?_eq_some_iff.1 he).1
  have hbd : z * t.cells + t.cells ≤ c' * t.cells := by
    have := Nat.mul_le_mul_right t.cells (show z + 1 ≤ c' by omega)
    rw [Nat.add_mul] at this; omega
  have hbd2 : z * t.cells + t.cells ≤ xs.length * t.cells := by
    have := Nat.mul_le_mul_right t.cells (show z + 1 ≤ xs.length by omega)
    rw [Nat.add_mul] at this; omega
  have hvl' : v.cells.toList.length = n := by simpa using hvl
  refine ⟨cs, rfl, by rw [hvl, h11]; omega, ?_⟩
  have hrc := h12.len
  obtain ⟨us, g1, rfl, g3⟩ := h12
  have hall : ∀ u ∈ us, u.length = t.cells := by
    intro u hu
    obtain ⟨i, hi, rfl⟩ := List.getElem_of_mem hu
    exact RC.len (g3 i (xs[i]'(by omega)) _ (List.getElem?_eq_getElem (by omega)) (List.getElem?_eq_getElem hi))
  obtain ⟨u, hu⟩ : ∃ u, us[z]? = some u := ⟨_, List.getElem?_eq_getElem (by omega)⟩
  have hue := g3 z e u he hu
  have hnew : RC m t e' (over u o v.cells.toList) := by
    refine rc_of_expl (ρ := ρ) hno ?_
    rw [← hcs]
    exact (rc_expl hue).over h5
  refine ⟨by simpa using h0, .inr ⟨b, c', _, _, by simp, rfl, by simpa using h9, h10, ?_, ⟨us.set z (over u o v.cells.toList), by simpa using g1, rfl, ?_⟩, ?_⟩⟩
  · rw [splice_size]; exact h11
  · intro j q r hq hr
    by_cases hj : z = j
    · subst hj
      rw [List.getElem?_set_self (by omega)] at hq hr
      cases hq; cases hr; exact hnew
    · rw [List.getElem?_set_ne hj] at hq hr
      exact g3 j q r hq hr
  · rw [splice_over, over_at hall hu (by omega), ← h13]
    simp only [List.length_set]
    apply List.ext_getElem?
    intro j
    have hcl : cs.toList.length = c' * t.cells := by simpa using h11
    rw [List.getElem?_take, over_get _ _ _ _ (by omega), over_get _ _ _ _ (by rw [List.length_take]; omega), List.getElem?_take]
    by_cases h1 : z * t.cells + o ≤ j ∧ j < z * t.cells + o + v.cells.toList.length
    · rw [if_pos h1, if_pos h1, if_pos (by omega)]
    · rw [if_neg h1, if_neg h1]
theorem slrep_elem {m : Mem} {w : World} {E b n' c' z : Nat} {t : Ty} {xs : List t.den} {e : t.den} {f : Frag} (H : SlRep m E t xs (.slice (some ⟨b, 0, none⟩) n' c') f) (hw : ∀ p ∈ f, w.heap[p.1]? = some p.2) (he : xs[z]? = some e) : ∃ us, RC m t e us ∧ Cells w b (z * t.cells) us := by
  obtain ⟨_, ⟨_, h2, _⟩ | ⟨b', c1, cs, vs, h2, rfl, h3, h4, h5, h6, h7⟩⟩ := H
  · cases h2
  · cases h2
    obtain ⟨u, h8, h9⟩ := h6.at he
    refine ⟨u, h8, fun j v hj => cell_blk (hw (b, _) (List.mem_singleton.2 rfl)) ?_⟩
    have := h9 j v hj
    rw [← h7, List.getElem?_take] at this
    split at this
    · simpa using this
    · cases this
/-- A row is changed. -/
theorem RowsO.set {m : Mem} {T : TypeId} {t : Ty} {y : List t.den} {r : Value} {g : Frag} : ∀ {x : List (List t.den)} {rs : List Value} {fs : List Frag} {k : Nat}, RowsO m T t x rs fs → SlRep m T t y r g → RowsO m T t (x.set k y) (rs.set k r) (fs.set k g) := by
  intro x
  induction x with
  | nil => intro rs fs k h _; cases rs with
    | nil => cases fs with
      | nil => trivial
      | cons => exact h.elim
    | cons => exact h.elim
  | cons z x ih => intro rs fs k h hy; cases rs with
    | nil => exact h.elim
    | cons r' rs => cases fs with
      | nil => exact h.elim
      | cons f fs => cases k with
        | zero => exact ⟨hy, h.2⟩
        | succ k => exact ⟨h.1, ih h.2 hy⟩

section
variable {P : Program} {N : Ev} {X : Cx} {Q : APost} {st : AS}
variable {d : Nat} {T U T' : TypeId} {pos : String} {aft : Array Edge} {g : Option (Nat × Bool)} {x y : Operand} {k ky : IntKind} {a b : Int}

/-- What is known of an own slice of own slices. -/
theorem slo_obj {fr : Fr} {w : World} {m : Mem} {ρ : List Value} {φ : List Frag} (hc : Conc X st fr w m ρ φ) {i : Nat} {h : Value} {rs : List Value} {E E' : TypeId} {t : Ty} {xs : List (List t.den)} (hi : ρ[i]? = some (.tuple (h :: rs).toArray)) (hH : st.H.get i = .slo E E' t xs) :
    ∃ fs b c cs, h = .slice (some ⟨b, 0, none⟩) xs.length c ∧ φ[i]? = some ((b, .cells cs E (0, 0)) :: fs.flatten) ∧ xs.length ≤ cap47 ∧ xs.length ≤ c ∧ c ≤ maxLen ∧ cs.size = c ∧ cs.toList.take xs.length = rs ∧ RowsO m E' t xs rs fs ∧ w.heap[b]? = some (.cells cs E (0, 0)) ∧ ∀ p ∈ fs.flatten, w.heap[p.1]? = some p.2 := by
  obtain ⟨f, hf, ho, hw⟩ := hc.obj hi
  rw [hH] at ho
  obtain ⟨rs', fs, f0, b, c, cs, h1, rfl, rfl, h4, h5, h6, h7, h8, h9⟩ := ho
  simp only [Value.tuple.injEq, List.toArray_inj, List.cons.injEq] at h1
  obtain ⟨rfl, rfl⟩ := h1
  refine ⟨fs, b, c, cs, rfl, hf, h4, h5, h6, h7, h8, h9, hw (b, _) (by simp), fun p hp => hw p (by simp only [List.cons_append, List.nil_append, List.mem_cons]; exact .inr hp)⟩

theorem av_len_sog {i : Nat} {t : Ty} {xs : List (List t.den)} {e E E' : Nat} {ts : Array TypeId} {cl : Array Operand} (hc : cl = #[x]) (ht : ts = #[T]) (hU : Und P T (.slice e)) (hx : aev st.l x = some (.sog i)) (hH : st.H.get i = .slo E E' t xs) (hN : Nat.blt d N.n = true := by rfl) :
    AOpV P N X ⟨some d, .call ⟨.builtin .len, cl, ts⟩, U, pos, aft, g⟩ (.int .i64 (xs.length : Int)) st :=
  av_of rfl fun Q fr w m ρ φ hcc => by
    obtain ⟨v, h1, h2⟩ := hcc.ev hx
    simp only [RepA] at h2
    obtain ⟨rs, h3, _⟩ := h2
    obtain ⟨fs, b, c, cs, rfl, _⟩ := slo_obj hcc h3 hH
    exact ⟨_, rep_int, fun K hk => op_len_slice hc ht hU h1 hN hk⟩
theorem av_ia_sog {i : Nat} {t : Ty} {xs : List (List t.den)} {E E0 E' : Nat} {e : List t.den} (hU : Und P T (.slice E)) (hS : Sz P E 1) (hx : aev st.l x = some (.sog i)) (hy : aev st.l y = some (.int k a)) (hH : st.H.get i = .slo E0 E' t xs) (he : ix xs a = some e) (hN : Nat.blt d N.n = true := by rfl) : AOpV P N X ⟨some d, .indexAddr T x y, U, pos, aft, g⟩ (.epg i a.toNat) st :=
  av_of rfl fun Q fr w m ρ φ hc => by
    obtain ⟨g1, g2, g3⟩ := ix_some he
    obtain ⟨p, h1, h2⟩ := hc.ev hx
    simp only [RepA] at h2
    obtain ⟨rs, h3, _⟩ := h2
    obtain ⟨fs, b', c', cs, rfl, _⟩ := slo_obj hc h3 hH
    refine ⟨_, ?_, fun K hk => op_indexAddr (b := b') (o := 0) (j := a.toNat) h1 (hc.int hy) hU hS rfl (by omega) (by omega) hN hk⟩
    simp only [RepA]
    exact ⟨b', _, c', rs, h3, by simp⟩
theorem slrep_one {m : Mem} {E : Nat} {t : Ty} {y : List t.den} {v : Value} {f : Frag} (h : SlRep m E t y v f) : v.oneCell' = true := by
  obtain ⟨_, ⟨_, rfl, _⟩ | ⟨b, c, cs, vs, rfl, _⟩⟩ := h <;> rfl
theorem av_load_epg {i z : Nat} {t : Ty} {xs : List (List t.den)} {E E' : Nat} {e : List t.den} (hT : TyS P T false 1) (hx : aev st.l x = some (.epg i z)) (hH : st.H.get i = .slo E E' t xs) (he : xs[z]? = some e) (hN : Nat.blt d N.n = true := by rfl) : AOpV P N X ⟨some d, .load T x, U, pos, aft, g⟩ (.row i z) st :=
  av_of rfl fun Q fr w m ρ φ hc => by
    obtain ⟨p, h1, h2⟩ := hc.ev hx
    simp only [RepA] at h2
    obtain ⟨b, n, c, rs, h3, rfl⟩ := h2
    obtain ⟨fs, b', c', cs, hh, _, _, _, _, h7, h8, h9, h10, _⟩ := slo_obj hc h3 hH
    cases hh
    obtain ⟨r, f, g1, g2, g3⟩ := h9.at.2.2 z e he
    refine ⟨r, ?_, fun K hk => op_load1 h1 hT.1 (cell_blk h10 ?_) hN hk⟩
    · simp only [RepA]; exact ⟨_, rs, h3, g1, slrep_one g3⟩
    · rw [← h8, List.getElem?_take] at g1
      split at g1
      · simpa using g1
      · cases g1
theorem av_ia_row {i z : Nat} {t : Ty} {xs : List (List t.den)} {E E0 E' : Nat} {e : List t.den} {v : t.den} (hU : Und P T (.slice E)) (hS : Sz P E t.cells) (hx : aev st.l x = some (.row i z)) (hy : aev st.l y = some (.int k a)) (hH : st.H.get i = .slo E0 E' t xs) (hz : xs[z]? = some e) (he : ix e a = some v) (hN : Nat.blt d N.n = true := by rfl) : AOpV P N X ⟨some d, .indexAddr T x y, U, pos, aft, g⟩ (.epr i z t.cells a.toNat 0) st :=
  av_of rfl fun Q fr w m ρ φ hc => by
    obtain ⟨g1, g2, g3⟩ := ix_some he
    obtain ⟨p, h1, h2⟩ := hc.ev hx
    simp only [RepA] at h2
    obtain ⟨hd, rs, h3, h4, _⟩ := h2
    obtain ⟨fs, b', c', cs, rfl, _, _, _, _, h7, h8, h9, h10, _⟩ := slo_obj hc h3 hH
    obtain ⟨r, f, k1, k2, k3⟩ := h9.at.2.2 z e hz
    rw [k1] at h4
    cases h4
    obtain ⟨_, ⟨rfl, _⟩ | ⟨b2, c2, cs2, vs2, rfl, _⟩⟩ := k3
    · simp at g2
    · refine ⟨_, ?_, fun K hk => op_indexAddr (b := b2) (o := 0) (j := a.toNat) h1 (hc.int hy) hU hS rfl (by omega) (by omega) hN hk⟩
      simp only [RepA]
      exact ⟨_, rs, b2, _, c2, h3, k1, by simp⟩
theorem av_len_row {i z : Nat} {t : Ty} {xs : List (List t.den)} {e : List t.den} {e0 E E' : Nat} {ts : Array TypeId} {cl : Array Operand} (hc : cl = #[x]) (ht : ts = #[T]) (hU : Und P T (.slice e0)) (hx : aev st.l x = some (.row i z)) (hH : st.H.get i = .slo E E' t xs) (hz : xs[z]? = some e) (hN : Nat.blt d N.n = true := by rfl) :
    AOpV P N X ⟨some d, .call ⟨.builtin .len, cl, ts⟩, U, pos, aft, g⟩ (.int .i64 (e.length : Int)) st :=
  av_of rfl fun Q fr w m ρ φ hcc => by
    obtain ⟨v, h1, h2⟩ := hcc.ev hx
    simp only [RepA] at h2
    obtain ⟨hd, rs, h3, h4, _⟩ := h2
    obtain ⟨fs, b', c', cs, rfl, _, _, _, _, h7, h8, h9, h10, _⟩ := slo_obj hcc h3 hH
    obtain ⟨r, f, k1, k2, k3⟩ := h9.at.2.2 z e hz
    rw [k1] at h4
    cases h4
    obtain ⟨_, ⟨rfl, rfl, _⟩ | ⟨b, c, cs, vs, rfl, _⟩⟩ := k3
    · exact ⟨_, rep_int, fun K hk => op_len_slice hc ht hU h1 hN hk⟩
    · exact ⟨_, rep_int, fun K hk => op_len_slice hc ht hU h1 hN hk⟩
theorem av_load_epr {i z q o sz : Nat} {t : Ty} {xs : List (List t.den)} {E E' : Nat} {e : List t.den} {u : t.den} {v : AV} {r : List AV} (hT : TyS P T false 1) (hx : aev st.l x = some (.epr i z sz q o)) (hH : st.H.get i = .slo E E' t xs) (hsz : sz = t.cells) (hz : xs[z]? = some e) (he : e[q]? = some u) (hd : (expl t u).drop o = v :: r) (hN : Nat.blt d N.n = true := by rfl) : AOpV P N X ⟨some d, .load T x, U, pos, aft, g⟩ v st :=
  av_of rfl fun Q fr w m ρ φ hc => by
    subst hsz
    obtain ⟨p, h1, h2⟩ := hc.ev hx
    simp only [RepA] at h2
    obtain ⟨hd', rs, b, n, c, h3, h4, rfl⟩ := h2
    obtain ⟨fs, b', c', cs, rfl, _, _, _, _, h7, h8, h9, h10, h11⟩ := slo_obj hc h3 hH
    obtain ⟨r', f, k1, k2, k3⟩ := h9.at.2.2 z e hz
    rw [k1] at h4
    cases h4
    obtain ⟨us, h12, h13⟩ := slrep_elem k3 (fun p hp => h11 p (List.mem_flatten.2 ⟨f, List.mem_of_getElem? k2, hp⟩)) he
    have h5 := (rc_expl (ρ := ρ) h12).drop o
    rw [hd] at h5
    obtain ⟨u', us', h6, h7', _⟩ := h5.one1
    refine ⟨u', h7', fun K hk => op_load1 h1 hT.1 (h13 o u' ?_) hN hk⟩
    have : (us.drop o)[0]? = some u' := by rw [h6]; rfl
    rw [List.getElem?_drop] at this
    simpa using this

theorem set_self {α : Type} {l : List α} {k : Nat} {x : α} (h : l[k]? = some x) : l.set k x = l := by
  apply List.ext_getElem?
  intro q
  rw [List.getElem?_set]
  split
  · rename_i e; subst e; rw [h]; simp [(List.getElem?_eq_some_iff.1 h).1]
  · rfl
/-- An element of a row is written. -/
theorem aop_store_epr {i z q o sz n : Nat} {E E' : TypeId} {t : Ty} {xs : List (List t.den)} {e : List t.den} {u u' : t.den} {ds : List AV} {av : AV} {K : AS → Prop} (hT : Sz P T n) (hx : aev st.l x = some (.epr i z sz q o)) (hy : aev st.l y = some av) (hH : st.H.get i = .slo E E' t xs) (hsz : sz = t.cells) (hz : xs[z]? = some e) (he : e[q]? = some u) (hd : cellsA av = some ds) (hn : Nat.beq ds.length n = true)
    (hle : Nat.ble (o + n) t.cells = true) (hno : t.noArr = true) (hcs : over (expl t u) o ds = expl t u') (k : K (st.upd i (.slo E E' t (xs.set z (e.set q u'))))) :
    AOp P N X ⟨none, .store T x y, U, pos, aft, g⟩ K st :=
  aop_of fun Q fr w m ρ φ hc K' hK => by
    subst hsz
    obtain ⟨p, h1, h2⟩ := hc.ev hx
    obtain ⟨v, h3, h4⟩ := hc.ev hy
    obtain ⟨h5, h6⟩ := rep_cells hd h4
    simp only [RepA] at h2
    obtain ⟨hd', rs, b2, n2, c2, h7, h8, rfl⟩ := h2
    obtain ⟨fs, b, c, cs, rfl, hf, g1, g2, g3, g4, g5, g6, g7, g8⟩ := slo_obj hc h7 hH
    obtain ⟨r, f, k1, k2, k3⟩ := g6.at.2.2 z e hz
    rw [k1] at h8
    cases h8
    have hn' := Nat.eq_of_beq_eq_true hn
    have hvl : v.cells.size = n := by rw [← hn']; simpa using h5.len
    obtain ⟨cs2, rfl, q1, q2⟩ := slrep_set (e' := u') k3 he h5 hn' (Nat.le_of_ble_eq_true hle) hno hcs
    have hb := g8 (b2, .cells cs2 E' (0, 0)) (List.mem_flatten.2 ⟨_, List.mem_of_getElem? k2, List.mem_singleton.2 rfl⟩)
    refine op_store h1 h3 (by rw [hvl]; exact hT) hb (by simpa only [List.all_eq_true] using h6) (by rw [Nat.ble_eq]; exact q1) fun w' hP hb' => ?_
    obtain ⟨p1, p2⟩ := frag_split k2 [(b2, .cells (splice cs2 (q * t.cells + o) v.cells.toList) E' (0, 0))]
    have hfr := hc.front hf
    have e1 : (((b, .cells cs E (0, 0)) :: fs.flatten) ++ ((φ.eraseIdx i).flatten ++ X.F)).Perm ((b2, .cells cs2 E' (0, 0)) :: ((b, .cells cs E (0, 0)) :: (fs.eraseIdx z).flatten ++ ((φ.eraseIdx i).flatten ++ X.F))) := by
      refine (List.Perm.append_right _ (List.Perm.cons _ p1)).trans ?_
      exact List.Perm.append_right _ (List.Perm.swap _ _ _)
    have e2 : (((b, .cells cs E (0, 0)) :: (fs.set z [(b2, .cells (splice cs2 (q * t.cells + o) v.cells.toList) E' (0, 0))]).flatten) ++ ((φ.eraseIdx i).flatten ++ X.F)).Perm ((b2, .cells (splice cs2 (q * t.cells + o) v.cells.toList) E' (0, 0)) :: ((b, .cells cs E (0, 0)) :: (fs.eraseIdx z).flatten ++ ((φ.eraseIdx i).flatten ++ X.F))) := by
      refine (List.Perm.append_right _ (List.Perm.cons _ p2)).trans ?_
      exact List.Perm.append_right _ (List.Perm.swap _ _ _)
    have hs' := ((hfr.perm e1).put hP hb' rfl).perm e2.symm
    refine hK _ _ _ _ _ _ (hc.turn h7 hf (f' := (b, .cells cs E (0, 0)) :: (fs.set z [(b2, .cells (splice cs2 (q * t.cells + o) v.cells.toList) E' (0, 0))]).flatten) hs' ?_) k
    refine ⟨rs, fs.set z _, [(b, .cells cs E (0, 0))], b, c, cs, by simp, rfl, rfl, by simpa using g1, by simpa using g2, g3, g4, by simpa using g5, ?_⟩
    have := g6.set (k := z) q2
    rwa [set_self k1] at this

/-- No row, no other name of object i. -/
def noRow (i : Nat) : AV → Bool
  | .rp cs => noRowL i cs
  | .agg cs => noRowL i cs
  | .tup cs => noRowL i cs
  | .fn _ a b => noRowL i a && noRowL i b
  | .ptr j _ => !Nat.beq j i
  | .osl j => !Nat.beq j i
  | .ep j _ _ _ => !Nat.beq j i
  | .map j => !Nat.beq j i
  | .row j _ => !Nat.beq j i
  | .epr j _ _ _ _ => !Nat.beq j i
  | _ => true
where noRowL (i : Nat) : List AV → Bool
  | [] => true
  | a :: r => noRow i a && noRowL i r

section
variable {m : Mem} {ρ ρ' : List Value} {i : Nat} {h : Value} {rs rs' : List Value}
theorem ne_of_beq {j i : Nat} (h : (!Nat.beq j i) = true) : j ≠ i := by rintro rfl; simp at h
mutual
theorem nr_rep (hi : ρ[i]? = some (.tuple (h :: rs).toArray)) (hi' : ρ'[i]? = some (.tuple (h :: rs').toArray)) (ho : ∀ j, j ≠ i → ρ'[j]? = ρ[j]?) : ∀ (a : AV) {v : Value}, noRow i a = true → RepA m ρ a v → RepA m ρ' a v
  | .rp cs, v, hn, H => by simp only [noRow] at hn; simp only [RepA] at H ⊢; obtain ⟨b, o, us, h1, h2, h3⟩ := H; exact ⟨b, o, us, h1, nr_repL hi hi' ho cs hn h2, h3⟩
  | .agg cs, v, hn, H => by simp only [noRow] at hn; simp only [RepA] at H ⊢; obtain ⟨us, h1, h2, h3⟩ := H; exact ⟨us, h1, nr_repL hi hi' ho cs hn h2, h3⟩
  | .tup cs, v, hn, H => by simp only [noRow] at hn; simp only [RepA] at H ⊢; obtain ⟨us, h1, h2⟩ := H; exact ⟨us, h1, nr_repL hi hi' ho cs hn h2⟩
  | .fn f a b, v, hn, H => by
    simp only [noRow, Bool.and_eq_true] at hn; simp only [RepA] at H ⊢
    obtain ⟨us, ws, h1, h2, h3⟩ := H; exact ⟨us, ws, h1, nr_repL hi hi' ho a hn.1 h2, nr_repL hi hi' ho b hn.2 h3⟩
  | .ptr j o, v, hn, H => by simp only [noRow] at hn; simp only [RepA] at H ⊢; rw [ho j (ne_of_beq hn)]; exact H
  | .osl j, v, hn, H => by simp only [noRow] at hn; simp only [RepA] at H ⊢; rw [ho j (ne_of_beq hn)]; exact H
  | .ep j sz z o, v, hn, H => by simp only [noRow] at hn; simp only [RepA] at H ⊢; rw [ho j (ne_of_beq hn)]; exact H
  | .map j, v, hn, H => by simp only [noRow] at hn; simp only [RepA] at H ⊢; rw [ho j (ne_of_beq hn)]; exact H
  | .row j k, v, hn, H => by simp only [noRow] at hn; simp only [RepA] at H ⊢; rw [ho j (ne_of_beq hn)]; exact H
  | .epr j k sz z o, v, hn, H => by simp only [noRow] at hn; simp only [RepA] at H ⊢; rw [ho j (ne_of_beq hn)]; exact H
  | .sog j, v, hn, H => by
    simp only [RepA] at H ⊢
    by_cases e : j = i
    · subst e
      obtain ⟨q, h1, h2⟩ := H
      rw [hi] at h1
      simp only [Option.some.injEq, Value.tuple.injEq, List.toArray_inj, List.cons.injEq] at h1
      obtain ⟨rfl, _⟩ := h1
      exact ⟨rs', hi', h2⟩
    · rw [ho j e]; exact H
  | .epg j k, v, hn, H => by
    simp only [RepA] at H ⊢
    by_cases e : j = i
    · subst e
      obtain ⟨b, n, c, q, h1, h2⟩ := H
      rw [hi] at h1
      simp only [Option.some.injEq, Value.tuple.injEq, List.toArray_inj, List.cons.injEq] at h1
      obtain ⟨rfl, _⟩ := h1
      exact ⟨b, n, c, rs', hi', h2⟩
    · rw [ho j e]; exact H
  | .int .., v, _, H => by simpa only [RepA] using H
  | .bool .., v, _, H => by simpa only [RepA] using H
  | .str .., v, _, H => by simpa only [RepA] using H
  | .sl .., v, _, H => by simpa only [RepA] using H
  | .nils, v, _, H => by simpa only [RepA] using H
  | .nilp, v, _, H => by simpa only [RepA] using H
  | .nilf, v, _, H => by simpa only [RepA] using H
  | .nili, v, _, H => by simpa only [RepA] using H
  | .nilm, v, _, H => by simpa only [RepA] using H
  | .yld _, v, _, H => by simpa only [RepA] using H
  | .val _, v, _, H => by simpa only [RepA] using H
  | .clo _, v, _, H => by simpa only [RepA] using H
  | .any, v, _, H => by simp only [RepA]
  | .bad, v, _, H => by simp only [RepA] at H
theorem nr_repL (hi : ρ[i]? = some (.tuple (h :: rs).toArray)) (hi' : ρ'[i]? = some (.tuple (h :: rs').toArray)) (ho : ∀ j, j ≠ i → ρ'[j]? = ρ[j]?) : ∀ (as' : List AV) {vs : List Value}, noRow.noRowL i as' = true → RepL m ρ as' vs → RepL m ρ' as' vs
  | [], [], _, H => by simp only [RepL]
  | [], _ :: _, _, H => by simp only [RepL] at H
  | _ :: _, [], _, H => by simp only [RepL] at H
  | a :: r, v :: vs, hn, H => by
    simp only [noRow.noRowL, Bool.and_eq_true] at hn
    simp only [RepL] at H ⊢; exact ⟨nr_rep hi hi' ho a hn.1 H.1, nr_repL hi hi' ho r hn.2 H.2⟩
end
end

/-- A frame that names no row of object i. -/
def subR (i : Nat) (l : AFr) : AFr → Prop
  | [] => True
  | (t, a) :: r => (l.look t = some a ∧ noRow i a = true) ∧ subR i l r
theorem subR_get {i : Nat} {l : AFr} : ∀ {l' : AFr}, subR i l l' → ∀ t a, l'.look t = some a → l.look t = some a ∧ noRow i a = true := by
  intro l'
  induction l' with
  | nil => intro _ t a h; simp [AFr.look] at h
  | cons p r ih =>
    intro h t a ht
    obtain ⟨q, b⟩ := p
    rw [AFr.look_cons] at ht
    split at ht
    · rename_i e; subst e; cases ht; exact h.1
    · exact ih h.2 t a ht
def noRowO (i : Nat) : AO → Bool
  | .var _ cs => noRow.noRowL i cs
  | _ => true

/-- A row is put in. -/
theorem aop_store_epg {i z j : Nat} {E E' : TypeId} {t : Ty} {xs : List (List t.den)} {e ys : List t.den} {l' : AFr} {K : AS → Prop} (hT : Sz P T 1) (hx : aev st.l x = some (.epg i z)) (hy : aev st.l y = some (.osl j)) (hH : st.H.get i = .slo E E' t xs) (hJ : st.H.get j = .sl E' t ys) (hz : xs[z]? = some e) (hX : Nat.ble X.ρ.length i = true) (hij : Nat.beq i j = false) (hl : subR i st.l l') (ho : ((List.range st.n).all fun k => noRowO i (st.H.get k)) = true)
    (k : K ⟨l', (i, .slo E E' t (xs.set z ys)) :: (j, .dead) :: st.H, st.n⟩) : AOp P N X ⟨none, .store T x y, U, pos, aft, g⟩ K st :=
  aop_of fun Q fr w m ρ φ hc K' hK => by
    have hne : i ≠ j := by rintro rfl; simp at hij
    have hX' := Nat.le_of_ble_eq_true hX
    obtain ⟨p, h1, h2⟩ := hc.ev hx
    obtain ⟨v, h3, h4⟩ := hc.ev hy
    simp only [RepA] at h2 h4
    obtain ⟨b, n0, c0, rs, h7, rfl⟩ := h2
    obtain ⟨h4, h5⟩ := h4
    obtain ⟨fs, b', c, cs, hh, hf, g1, g2, g3, g4, g5, g6, g7, g8⟩ := slo_obj hc h7 hH
    cases hh
    obtain ⟨fj, hfj, hoj, hwj⟩ := hc.obj h4
    rw [hJ] at hoj
    have hrow : SlRep m E' t ys v fj := hoj
    obtain ⟨r, fz, k1, k2, k3⟩ := g6.at.2.2 z e hz
    have hzl := (List.getElem?_eq_some_iff.1 hz).1
    have hvc : v.cells = #[v] := by cases v <;> simp [Value.oneCell'] at h5 <;> rfl
    refine op_store h1 h3 (by rw [hvc]; exact hT) g7 (by rw [hvc]; simpa using h5) (by rw [Nat.ble_eq, hvc]; simp; omega) fun w' hP hb' => ?_
    rw [hvc] at hb'
    -- what lies where
    have hjl : j < ρ.length := (List.getElem?_eq_some_iff.1 h4).1
    have hil : i < ρ.length := (List.getElem?_eq_some_iff.1 h7).1
    obtain ⟨cs', hcs'⟩ : ∃ cs', cs' = splice cs z [v] := ⟨_, rfl⟩
    have hb'' : w'.heap[b]? = some (.cells cs' E (0, 0)) := by rw [hcs']; exact hb'
    obtain ⟨rs', hrs'⟩ : ∃ rs', rs' = rs.set z v := ⟨_, rfl⟩
    obtain ⟨ρ', hρ'⟩ : ∃ ρ' : List Value, ρ' = ρ.set i (.tuple (.slice (some ⟨b, 0, none⟩) xs.length c0 :: rs').toArray) := ⟨_, rfl⟩
    have hρi : ρ'[i]? = some (.tuple (.slice (some ⟨b, 0, none⟩) xs.length c0 :: rs').toArray) := by rw [hρ', List.getElem?_set_self hil]
    have hρo : ∀ q, q ≠ i → ρ'[q]? = ρ[q]? := fun q hq => by rw [hρ', List.getElem?_set_ne (fun e => hq e.symm)]
    obtain ⟨F1, hF1⟩ : ∃ F1 : Frag, F1 = (b, .cells cs' E (0, 0)) :: (fs.set z fj).flatten := ⟨_, rfl⟩
    have hφ' : ((φ.set i F1).set j []).length = st.n := by simp [hc.nφ]
    have hfz := frag_split k2 fj
    -- the fragments
    have hi2 : (φ.set j [])[i]? = some ((b, .cells cs E (0, 0)) :: fs.flatten) := by rw [List.getElem?_set_ne (fun e => hne e.symm)]; exact hf
    have s1 := (frag_split hfj ([] : Frag))
    have s2 := (frag_split hi2 F1)
    have hperm : (φ.flatten ++ X.F).Perm ((b, .cells cs E (0, 0)) :: (fz ++ ((fs.eraseIdx z).flatten ++ fj ++ (((φ.set j []).eraseIdx i).flatten ++ X.F)))) := by
      refine (List.Perm.append_right _ (s1.1.trans ((List.Perm.append_left fj (by simpa using s1.2.symm)).trans (List.Perm.append_left fj s2.1)))).trans ?_
      refine (List.Perm.append_right _ (List.Perm.append_left fj (List.Perm.append_right _ (List.Perm.cons _ hfz.1)))).trans ?_
      simp only [List.cons_append, List.append_assoc]
      refine List.perm_middle.trans (List.Perm.cons _ ?_)
      refine (List.perm_append_comm_assoc _ _ _).trans (List.Perm.append_left _ ?_)
      exact List.perm_append_comm_assoc _ _ _
    have hsh := (hc.sh.perm hperm).put hP hb'' rfl
    have hsh2 : SH X.e w' m ((b, .cells cs' E (0, 0)) :: ((fs.eraseIdx z).flatten ++ fj ++ (((φ.set j []).eraseIdx i).flatten ++ X.F))) := by
      have e1 : ((b, Obj.cells cs' E (0, 0)) :: (fz ++ ((fs.eraseIdx z).flatten ++ fj ++ (((φ.set j []).eraseIdx i).flatten ++ X.F)))).Perm (fz ++ ((b, .cells cs' E (0, 0)) :: ((fs.eraseIdx z).flatten ++ fj ++ (((φ.set j []).eraseIdx i).flatten ++ X.F)))) := List.perm_middle.symm
      exact (hsh.perm e1).tail
    have hcomm : (φ.set i F1).set j [] = (φ.set j []).set i F1 := by rw [List.set_comm _ _ hne]
    have hsh3 : SH X.e w' m (((φ.set i F1).set j []).flatten ++ X.F) := by
      refine hsh2.perm ?_
      rw [hcomm]
      refine List.Perm.symm ((List.Perm.append_right _ s2.2).trans ?_)
      rw [hF1]
      simp only [List.cons_append]
      refine List.Perm.cons _ ?_
      rw [List.append_assoc]
      refine (List.Perm.append_right _ hfz.2).trans ?_
      rw [List.append_assoc, List.append_assoc]
      exact List.perm_append_comm_assoc _ _ _
    refine hK _ w' ⟨l', (i, .slo E E' t (xs.set z ys)) :: (j, .dead) :: st.H, st.n⟩ m ρ' ((φ.set i F1).set j []) ⟨hc.mle, ?_, by rw [hρ', List.length_set]; exact hc.nρ, hφ', ?_, ?_, hsh3⟩ k
    · intro q hq hqv
      have hql := (List.getElem?_eq_some_iff.1 hqv).1
      rw [hρo q (by omega)]
      exact hc.pre q hq hqv
    · intro q a' ha'
      obtain ⟨n1, n2⟩ := subR_get hl q a' ha'
      obtain ⟨u, m1, m2⟩ := hc.slots q a' n1
      exact ⟨u, m1, nr_rep h7 hρi hρo a' n2 m2⟩
    · intro q hd fq hq hfq
      rw [AH.get_cons]
      split
      · rename_i e'
        subst e'
        rw [hρi] at hq
        cases hq
        rw [List.getElem?_set_ne (fun e => hne e.symm), List.getElem?_set_self (by rw [hc.nφ, ← hc.nρ]; exact hil)] at hfq
        cases hfq
        refine ⟨rs', fs.set z fj, [(b, .cells cs' E (0, 0))], b, c0, cs', by simp, hF1, rfl, by simpa using g1, by simpa using g2, g3, by rw [hcs', splice_size]; exact g4, ?_, ?_⟩
        · rw [List.length_set, hcs', splice_over, hrs', ← g5]
          apply List.ext_getElem?
          intro q
          have hcl : cs.toList.length = c0 := by simpa using g4
          rw [List.getElem?_take, over_get _ _ _ _ (by simp; omega), List.getElem?_set, List.getElem?_take]
          simp only [List.length_cons, List.length_nil]
          by_cases hqz : z = q
          · subst hqz
            rw [if_pos hzl, if_pos (by omega), if_pos rfl]
            simp [hzl]
            omega
          · have hn : ¬ (z ≤ q ∧ q < z + (0 + 1)) := by omega
            by_cases hq2 : q < xs.length
            · rw [if_pos hq2, if_neg hn, if_neg hqz, if_pos hq2]
            · rw [if_neg hq2, if_neg hqz, if_neg hq2]
        · rw [hrs']
          exact g6.set hrow
      · rename_i e'
        rw [AH.get_cons]
        have e'' : q ≠ i := fun h => e' h.symm
        split
        · rename_i e3
          subst e3
          rw [List.getElem?_set_self (by simp; rw [hc.nφ, ← hc.nρ]; exact hjl)] at hfq
          cases hfq
          rfl
        · rename_i e3
          rw [List.getElem?_set_ne (fun h => e3 h), List.getElem?_set_ne (fun h => e' h)] at hfq
          rw [hρo q e''] at hq
          have hoq := hc.objs q hd fq hq hfq
          have hqn : q < st.n := by rw [← hc.nρ]; exact (List.getElem?_eq_some_iff.1 hq).1
          have hnr := (List.all_eq_true.1 ho) q (List.mem_range.2 hqn)
          cases hg : st.H.get q with
          | var T1 cs1 =>
            rw [hg] at hoq hnr
            obtain ⟨b1, us, t1, t2, t3, t4⟩ := hoq
            exact ⟨b1, us, t1, t2, nr_repL h7 hρi hρo cs1 hnr t3, t4⟩
          | dead => rw [hg] at hoq; exact hoq
          | sl T1 t1 x1 => rw [hg] at hoq; exact hoq
          | map tk tv x1 => rw [hg] at hoq; exact hoq
          | slo T1 T2 t1 x1 => rw [hg] at hoq; exact hoq
          | guest p1 => rw [hg] at hoq; exact hoq

/-- make([][]E, n). -/
theorem aop_makeO {E bytes : Nat} (E' : TypeId) {t : Ty} {l c : Int} {kl kc : IntKind} {K : AS → Prop} (hU : Und P T (.slice E)) (hZ : ZeroT P E (.slice t) bytes) (hx : aev st.l x = some (.int kl l)) (hy : aev st.l y = some (.int kc c)) (hb : mkOk bytes l c = true) (hB : Nat.ble 1 bytes = true)
    (k : K (st.new d (.sog st.n) (.slo E E' t (List.replicate l.toNat [])))) (hN : Nat.blt d N.n = true := by rfl) :
    AOp P N X ⟨some d, .makeSlice T x y, U, pos, aft, g⟩ K st :=
  aop_of fun Q fr w m ρ φ hc K' hK => by
    obtain ⟨i, z, hi, hz, hsize, hby, hzs⟩ := hZ
    simp only [mkOk, Bool.and_eq_true, decide_eq_true_eq] at hb
    obtain ⟨⟨h0, hlc⟩, hbb⟩ := hb
    have hbb := Nat.le_of_ble_eq_true hbb
    have hB := Nat.le_of_ble_eq_true hB
    have hcc : c.toNat ≤ cap47 := Nat.le_trans (Nat.le_mul_of_pos_right _ hB) hbb
    have h47 : cap47 = 140737488355328 := rfl
    have hc0 : ((c.toNat : Nat) : Int) = c := by omega
    have hbi : (i.bytes : Int) * c ≤ 281474976710656 := by
      rw [hby, ← hc0, ← Int.natCast_mul, Nat.mul_comm]; omega
    have hr := run_make (P := P) w T E i z hU hi hz kl kc l c h0 hlc hbi (by omega)
    refine op_val (v := .slice (some ⟨w.heap.size, 0, none⟩) l.toNat c.toNat) rfl hN (fun a ha => ?_) ?_ (dk_new (new_push w (.cells (madeCells z.cells (c.toNat * i.size)) E)))
    · simp [execOp, ha.eval (hc.int hx), ha.eval (hc.int hy)]
      rw [hr]; rfl
    · have hs := hc.sh.alloc (new_push w (.cells (madeCells z.cells (c.toNat * i.size)) E)) rfl
      have hzs' : z.cells.toList = [.slice none 0 0] := hzs
      have hzsz : z.cells.size = 1 := by have := congrArg List.length hzs'; simpa using this
      have hsize1 : i.size = 1 := hsize
      have hll : (List.replicate l.toNat ([] : List t.den)).length = l.toNat := by simp
      refine hK _ _ _ _ _ _ (hc.newObj (h := .tuple (.slice (some ⟨w.heap.size, 0, none⟩) l.toNat c.toNat :: List.replicate l.toNat (.slice none 0 0)).toArray) (f := [(w.heap.size, .cells (madeCells z.cells (c.toNat * i.size)) E)]) (Mem.le_refl _) hs ?_ ?_) k
      · refine ⟨List.replicate l.toNat (.slice none 0 0), List.replicate l.toNat [], [(w.heap.size, .cells (madeCells z.cells (c.toNat * i.size)) E (0, 0))], w.heap.size, c.toNat, madeCells z.cells (c.toNat * i.size), by rw [hll], ?_, rfl, by rw [hll]; omega, by rw [hll]; omega, by simp only [maxLen]; omega, by rw [size_madeCells, hsize1]; omega, ?_, ?_⟩
        · have : (List.replicate l.toNat ([] : Frag)).flatten = [] := by
            rw [List.flatten_eq_nil_iff]; intro q hq; exact List.eq_of_mem_replicate hq
          rw [this]; simp
        · have h9 := made_rows hzs' c.toNat
          rw [hzsz] at h9
          rw [hll, hsize1, h9]
          have : (List.replicate c.toNat [Value.slice none 0 0]).flatten = List.replicate c.toNat (Value.slice none 0 0) := by
            generalize c.toNat = q
            induction q with
            | zero => rfl
            | succ q ih => rw [List.replicate_succ, List.flatten_cons, ih]; rfl
          rw [this, List.take_replicate, Nat.min_eq_left (by omega)]
        · generalize l.toNat = q
          induction q with
          | zero => trivial
          | succ q ih => exact ⟨⟨by simp, .inl ⟨rfl, rfl, rfl⟩⟩, ih⟩
      · simp only [RepA]
        exact ⟨List.replicate l.toNat (.slice none 0 0), by rw [← hc.nρ]; simp, rfl⟩
end
end Go.Ab
