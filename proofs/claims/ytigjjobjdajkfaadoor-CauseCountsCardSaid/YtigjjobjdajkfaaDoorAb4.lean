/- Lemmas for a law of the seat: what functions of the program do, each stated as a contract of its own (Ab4). -/
import Derived.Test.YtigjjobjdajkfaaDoorAb3
import Derived.Shelf.Strings.Builder1
import Derived.Lib.AppendStr
import Derived.Lib.UnsafeStr
set_option linter.unusedVariables false
set_option linter.unusedSimpArgs false
namespace Go.Ab
open Go.RowKit Go.Shelf Go.Proofs Go.Eng

/-! strings.Builder -/
section
variable {P : Program}
variable {ρ : Ren}
/-- But one block all stand as they stood. -/
structure ButB (g : Nat) (w w' : World) : Prop where
  os : w'.os = w.os
  tape : w'.tape = w.tape
  output : w'.output = w.output
  size : w.heap.size ≤ w'.heap.size
  other : ∀ k, k < w.heap.size → k ≠ g → w'.heap[k]? = w.heap[k]?
theorem ButB.sh {e w w' : World} {m : Mem} {g : Nat} {o : Obj} {r : Frag} (h : ButB g w w') (hs : SH e w m ((g, o) :: r)) : SH e w' m r := by
  have hlt : ∀ x o', w.heap[x]? = some o' → x < w.heap.size := fun x o' hx => (Array.getElem?_eq_some_iff.1 hx).1
  have hnd := hs.nd
  rw [List.map_cons, List.nodup_cons] at hnd
  refine ⟨h.os.trans hs.os, h.tape.trans hs.tape, h.output.trans hs.output, fun x o' hx => ?_, fun p hp => ?_, hnd.2, fun p hp => hs.dis p (List.mem_cons_of_mem _ hp), fun p hp => hs.noctl p (List.mem_cons_of_mem _ hp), hs.mctl⟩
  · have h1 := hs.fz x o' hx
    refine (h.other x (hlt _ _ h1) ?_).trans h1
    rintro rfl
    have := hs.dis (x, o) (by simp)
    simp only at this
    rw [hx] at this; cases this
  · have h1 := hs.own p (List.mem_cons_of_mem _ hp)
    refine (h.other p.1 (hlt _ _ h1) ?_).trans h1
    intro he
    exact hnd.1 (List.mem_map.2 ⟨p, hp, he⟩)
theorem ButB.dk {w w' : World} {g : Nat} {o : Obj} (h : ButB g w w') (hg : w.heap[g]? = some o) (hc : ctl o = false) : DK none w w' ∧ w.heap.size ≤ w'.heap.size := by
  refine ⟨fun k o' hk hc' _ => ?_, h.size⟩
  refine (h.other k (Array.getElem?_eq_some_iff.1 hk).1 ?_).trans hk
  rintro rfl
  rw [hg] at hk; cases hk; rw [hc] at hc'; cases hc'
end
end Go.Ab


set_option linter.unusedVariables false
set_option linter.unusedSimpArgs false
namespace Go.Ab
open Go.RowKit Go.Shelf Go.Proofs Go.Eng
section
variable {P : Program} {N : Ev} {X : Cx} {Q : APost} {st : AS}
variable {d : Nat} {T U T' : TypeId} {pos : String} {aft : Array Edge} {g : Option (Nat × Bool)} {x y z : Operand} {k ky : IntKind} {a b : Int}

theorem op_indexArr {l : Fr} {w : World} {K : Fr → World → Prop} {Q : Post} {b o n c e sz j : Nat} {i : Int} {kd : IntKind} (hx : evo l x = some (.pointer (some ⟨b, o, none⟩))) (hy : evo l y = some (.int kd i)) (hU : Und P T (.array n e)) (hS : Sz P e sz) (hj : i = (j : Int)) (hlt : j < n)
    (hN : Nat.blt d N.n = true) (k : K ((d, .pointer (some ⟨b, o + j * sz, none⟩)) :: l) w) :
    OpW P N ⟨some d, .indexAddr T x y, U, pos, aft, g⟩ K Q l w := by
  subst hj
  refine op_val rfl hN (fun s hs => ?_) k
  simp [execOp, hs.eval hx, hs.eval hy, Instr.indexAt, asIntOf, run_underlying hU, hS w, add_lit, hlt, Instr.sureAddr]
/-- A place of an array, of the call's own. -/
theorem av_ia_parr {i o o' n e sz : Nat} (hU : Und P T (.array n e)) (hS : Sz P e sz) (hx : aev st.l x = some (.ptr i o)) (hy : aev st.l y = some (.int k a)) (hb : (decide (0 ≤ a) && decide (a < n)) = true) (ho : o + a.toNat * sz = o') (hN : Nat.blt d N.n = true := by rfl) :
    AOpV P N X ⟨some d, .indexAddr T x y, U, pos, aft, g⟩ (.ptr i o') st :=
  av_of rfl fun Q fr w m ρ φ hc => by
    subst ho
    simp only [Bool.and_eq_true, decide_eq_true_eq] at hb
    obtain ⟨p, h1, h2⟩ := hc.ev hx
    simp only [RepA] at h2
    obtain ⟨b, h3, rfl⟩ := h2
    exact ⟨_, by simp only [RepA]; exact ⟨b, h3, rfl⟩, fun K hk => op_indexArr (c := 0) (j := a.toNat) h1 (hc.int hy) hU hS (by omega) (by omega) hN hk⟩
end
end Go.Ab


set_option linter.unusedVariables false
set_option linter.unusedSimpArgs false
namespace Go.Ab
open Go.RowKit Go.Shelf Go.Proofs Go.Eng

/-! a row of own slices is taken out, appended to, put back -/
section
variable {P : Program} {N : Ev} {X : Cx} {Q : APost} {st : AS}
variable {d : Nat} {T U T' : TypeId} {pos : String} {aft : Array Edge} {g : Option (Nat × Bool)} {x y : Operand} {k ky : IntKind} {a b : Int}
theorem wk_open_row {i z : Nat} {E E' : TypeId} {t : Ty} {xs : List (List t.den)} {e : List t.den} (hi : Nat.blt i st.n = true) (hH : st.H.get i = .slo E E' t xs) (hz : xs[z]? = some e) :
    Wk X st ⟨st.l, (i, .sloh E E' t xs z st.n) :: (st.n, .sl E' t e) :: st.H, st.n + 1⟩ := by
  intro fr w m ρ φ hc
  have hil : i < st.n := by simpa using hi
  obtain ⟨u, hu⟩ : ∃ u, ρ[i]? = some u := ⟨_, List.getElem?_eq_getElem (by rw [hc.nρ]; exact hil)⟩
  obtain ⟨f, hf, hor, hw⟩ := hc.obj hu
  rw [hH] at hor
  obtain ⟨rs, fs, f0, b, c, cs, rfl, rfl, rfl, h4, h5, h6, h7, h8, h9⟩ := hor
  obtain ⟨r, fz, k1, k2, k3⟩ := h9.at.2.2 z e hz
  have hzl := (List.getElem?_eq_some_iff.1 hz).1
  obtain ⟨p2, p3⟩ := frag_split k2 []
  obtain ⟨q1, q2⟩ := frag_split hf ((b, .cells cs E (0, 0)) :: (fs.set z []).flatten)
  have hsh : SH X.e w m ((φ.set i ((b, .cells cs E (0, 0)) :: (fs.set z []).flatten)).flatten ++ [fz].flatten ++ X.F) := by
    refine hc.sh.perm (List.Perm.append_right _ ?_)
    refine q1.trans ?_
    have e0 : ([fz] : List Frag).flatten = fz := by simp
    rw [e0]
    rw [List.nil_append] at p3
    have a1 : (fs.flatten).Perm ((fs.set z []).flatten ++ fz) := p2.trans (List.perm_append_comm.trans (List.Perm.append_right _ p3.symm))
    have a2 : ([(b, Obj.cells cs E (0, 0))] ++ fs.flatten ++ (φ.eraseIdx i).flatten).Perm ((((b, Obj.cells cs E (0, 0)) :: (fs.set z []).flatten) ++ fz) ++ (φ.eraseIdx i).flatten) := List.Perm.append_right _ (List.Perm.cons _ a1)
    refine a2.trans ?_
    rw [List.append_assoc]
    refine (List.Perm.append_left _ List.perm_append_comm).trans ?_
    rw [← List.append_assoc]
    exact List.Perm.append_right _ q2.symm
  have hre := Conc.re hc (Mem.le_refl m) (H' := (i, .sloh E E' t xs z st.n) :: (st.n, .sl E' t e) :: st.H) (ρ2 := [r]) (φ1 := φ.set i ((b, .cells cs E (0, 0)) :: (fs.set z []).flatten)) (φ2 := [fz]) (w' := w) (by simp) rfl ?_ ?_ hsh
  · exact ⟨m, _, _, hre⟩
  · intro q h f hq hfq
    rw [AH.get_cons]
    by_cases e : i = q
    · subst e
      rw [if_pos rfl]
      rw [hu] at hq; cases hq
      rw [List.getElem?_set_self (by rw [hc.nφ]; exact hil)] at hfq
      cases hfq
      refine ⟨rs, fs.set z [], _, b, c, cs, r, rfl, rfl, rfl, h4, h5, h6, h7, h8, h9.set ⟨by simp, .inl ⟨rfl, rfl, rfl⟩⟩, hzl, k1, slrep_one k3, ?_⟩
      rw [← hc.nρ]; simp
    · rw [if_neg e]
      rw [List.getElem?_set_ne e] at hfq
      have hqn : q < st.n := by rw [← hc.nρ]; exact (List.getElem?_eq_some_iff.1 hq).1
      rw [AH.get_cons, if_neg (by omega)]
      exact (hc.objs q h f hq hfq).mono (Mem.le_refl _) pre_apps
  · intro q h f hq hfq
    cases q with
    | succ q => simp at hq
    | zero =>
      simp at hq hfq
      subst hq hfq
      rw [AH.get_cons, if_neg (by omega), AH.get_cons, if_pos (by omega)]
      exact k3
theorem slo_objh {fr : Fr} {w : World} {m : Mem} {ρ : List Value} {φ : List Frag} (hc : Conc X st fr w m ρ φ) {i z j : Nat} {h : Value} {rs : List Value} {E E' : TypeId} {t : Ty} {xs : List (List t.den)} (hi : ρ[i]? = some (.tuple (h :: rs).toArray)) (hH : st.H.get i = .sloh E E' t xs z j) :
    ∃ fs b c cs r, h = .slice (some ⟨b, 0, none⟩) xs.length c ∧ φ[i]? = some ((b, .cells cs E (0, 0)) :: fs.flatten) ∧ xs.length ≤ cap47 ∧ xs.length ≤ c ∧ c ≤ maxLen ∧ cs.size = c ∧ cs.toList.take xs.length = rs ∧ RowsO m E' t (xs.set z []) (rs.set z (.slice none 0 0)) fs ∧ w.heap[b]? = some (.cells cs E (0, 0)) ∧ z < xs.length ∧ (rs[z]? = some r ∧ r.oneCell' = true) ∧ ρ[j]? = some r ∧ ∀ p ∈ fs.flatten, w.heap[p.1]? = some p.2 := by
  obtain ⟨f, hf, ho, hw⟩ := hc.obj hi
  rw [hH] at ho
  obtain ⟨rs', fs, f0, b, c, cs, r, h1, rfl, rfl, h4, h5, h6, h7, h8, h9, h10, h11, h12, h13⟩ := ho
  simp only [Value.tuple.injEq, List.toArray_inj, List.cons.injEq] at h1
  obtain ⟨rfl, rfl⟩ := h1
  exact ⟨fs, b, c, cs, r, rfl, hf, h4, h5, h6, h7, h8, h9, hw (b, _) (by simp), h10, ⟨h11, h12⟩, h13, fun p hp => hw p (by simp only [List.cons_append, List.nil_append, List.mem_cons]; exact .inr hp)⟩
theorem av_ia_sogh {i z j : Nat} {t : Ty} {xs : List (List t.den)} {E E0 E' : Nat} {e : List t.den} (hU : Und P T (.slice E)) (hS : Sz P E 1) (hx : aev st.l x = some (.sog i)) (hy : aev st.l y = some (.int k a)) (hH : st.H.get i = .sloh E0 E' t xs z j) (he : ix xs a = some e) (hN : Nat.blt d N.n = true := by rfl) : AOpV P N X ⟨some d, .indexAddr T x y, U, pos, aft, g⟩ (.epg i a.toNat) st :=
  av_of rfl fun Q fr w m ρ φ hc => by
    obtain ⟨g1, g2, g3⟩ := ix_some he
    obtain ⟨p, h1, h2⟩ := hc.ev hx
    simp only [RepA] at h2
    obtain ⟨rs, h3, _⟩ := h2
    obtain ⟨fs, b', c', cs, r, rfl, _⟩ := slo_objh hc h3 hH
    refine ⟨_, ?_, fun K hk => op_indexAddr (b := b') (o := 0) (j := a.toNat) h1 (hc.int hy) hU hS rfl (by omega) (by omega) hN hk⟩
    simp only [RepA]
    exact ⟨b', _, c', rs, h3, by simp⟩
theorem av_load_epgh {i z j : Nat} {t : Ty} {xs : List (List t.den)} {E E' : Nat} (hT : TyS P T false 1) (hx : aev st.l x = some (.epg i z)) (hH : st.H.get i = .sloh E E' t xs z j) (hN : Nat.blt d N.n = true := by rfl) : AOpV P N X ⟨some d, .load T x, U, pos, aft, g⟩ (.osl j) st :=
  av_of rfl fun Q fr w m ρ φ hc => by
    obtain ⟨p, h1, h2⟩ := hc.ev hx
    simp only [RepA] at h2
    obtain ⟨b, n, c, rs, h3, rfl⟩ := h2
    obtain ⟨fs, b', c', cs, r, hh, _, _, _, _, h7, h8, h9, h10, h11, ⟨h12, h13⟩, h14, _⟩ := slo_objh hc h3 hH
    cases hh
    refine ⟨r, ?_, fun K hk => op_load1 h1 hT.1 (cell_blk h10 ?_) hN hk⟩
    · simp only [RepA]; exact ⟨h14, h13⟩
    · rw [← h8, List.getElem?_take, if_pos h11] at h12
      simpa using h12

/-- A row is put in where one was taken out. -/
theorem aop_store_epgh {i z j j0 : Nat} {E E' : TypeId} {t : Ty} {xs : List (List t.den)} {ys : List t.den} {l' : AFr} {K : AS → Prop} (hT : Sz P T 1) (hx : aev st.l x = some (.epg i z)) (hy : aev st.l y = some (.osl j)) (hH : st.H.get i = .sloh E E' t xs z j0) (hJ : st.H.get j = .sl E' t ys) (hX : Nat.ble X.ρ.length i = true) (hij : Nat.beq i j = false) (hl : subR i st.l l') (ho : ((List.range st.n).all fun k => noRowO i (st.H.get k)) = true)
    (k : K ⟨l', (i, .slo E E' t (xs.set z ys)) :: (j, .dead) :: st.H, st.n⟩) : AOp P N X ⟨none, .store T x y, U, pos, aft, g⟩ K st :=
  aop_of fun Q fr w m ρ φ hc K' hK => by
    have hne : i ≠ j := by rintro rfl; simp at hij
    have hX' := Nat.le_of_ble_eq_true hX
    obtain ⟨p, h1, h2⟩ := hc.ev hx
    obtain ⟨v, h3, h4⟩ := hc.ev hy
    simp only [RepA] at h2 h4
    obtain ⟨b, n0, c0, rs, h7, rfl⟩ := h2
    obtain ⟨h4, h5⟩ := h4
    obtain ⟨fs, b', c, cs, r0, hh, hf, g1, g2, g3, g4, g5, g6, g7, hzl, g9, _, g8⟩ := slo_objh hc h7 hH
    cases hh
    obtain ⟨fj, hfj, hoj, hwj⟩ := hc.obj h4
    rw [hJ] at hoj
    have hrow : SlRep m E' t ys v fj := hoj
    obtain ⟨r, fz, k1, k2, k3⟩ := g6.at.2.2 z [] (by rw [List.getElem?_set_self hzl])
    have hvc : v.cells = #[v] := by cases v <;> simp [Value.oneCell'] at h5 <;> rfl
    refine op_store h1 h3 (by rw [hvc]; exact hT) g7 (by rw [hvc]; simpa using h5) (by rw [Nat.ble_eq, hvc]; simp; omega) fun w' hP hb' => ?_
    rw [hvc] at hb'
    -- what lies where
    have hjl : j < ρ.length := (List.getElem?_eq_some_iff.1 h4).1
    have hil : i < ρ.length := (List.getElem?_eq_some_iff.1 h7).1
    obtain ⟨cs', hcs'⟩ : ∃ cs', cs' = splice cs z [v] := ⟨_, rfl⟩
    have hb'' : w'.heap[b]? = some (.cells cs' E (0, 0)) := by rw [hcs']; exact hb'
    obtain ⟨rs', hrs'⟩ : ∃ rs', rs' = rs.set z v := ⟨_, rfl⟩
    obtain ⟨ρ', hρ'⟩ : ∃ ρ' : List Value, ρ' = ρ.set i (.tuple (.slice (some ⟨b, 0, none⟩) xs.length c0 :: rs').toArray) := ⟨_, rfl⟩
    have hρi : ρ'[i]? = some (.tuple (.slice (some ⟨b, 0, none⟩) xs.length c0 :: rs').toArray) := by rw [hρ', List.getElem?_set_self hil]
    have hρo : ∀ q, q ≠ i → ρ'[q]? = ρ[q]? := fun q hq => by rw [hρ', List.getElem?_set_ne (fun e => hq e.symm)]
    obtain ⟨F1, hF1⟩ : ∃ F1 : Frag, F1 = (b, .cells cs' E (0, 0)) :: (fs.set z fj).flatten := ⟨_, rfl⟩
    have hφ' : ((φ.set i F1).set j []).length = st.n := by simp [hc.nφ]
    have hfz := frag_split k2 fj
    -- the fragments
    have hi2 : (φ.set j [])[i]? = some ((b, .cells cs E (0, 0)) :: fs.flatten) := by rw [List.getElem?_set_ne (fun e => hne e.symm)]; exact hf
    have s1 := (frag_split hfj ([] : Frag))
    have s2 := (frag_split hi2 F1)
    have hperm : (φ.flatten ++ X.F).Perm ((b, .cells cs E (0, 0)) :: (fz ++ ((fs.eraseIdx z).flatten ++ fj ++ (((φ.set j []).eraseIdx i).flatten ++ X.F)))) := by
      refine (List.Perm.append_right _ (s1.1.trans ((List.Perm.append_left fj (by simpa using s1.2.symm)).trans (List.Perm.append_left fj s2.1)))).trans ?_
      refine (List.Perm.append_right _ (List.Perm.append_left fj (List.Perm.append_right _ (List.Perm.cons _ hfz.1)))).trans ?_
      simp only [List.cons_append, List.append_assoc]
      refine List.perm_middle.trans (List.Perm.cons _ ?_)
      refine (List.perm_append_comm_assoc _ _ _).trans (List.Perm.append_left _ ?_)
      exact List.perm_append_comm_assoc _ _ _
    have hsh := (hc.sh.perm hperm).put hP hb'' rfl
    have hsh2 : SH X.e w' m ((b, .cells cs' E (0, 0)) :: ((fs.eraseIdx z).flatten ++ fj ++ (((φ.set j []).eraseIdx i).flatten ++ X.F))) := by
      have e1 : ((b, Obj.cells cs' E (0, 0)) :: (fz ++ ((fs.eraseIdx z).flatten ++ fj ++ (((φ.set j []).eraseIdx i).flatten ++ X.F)))).Perm (fz ++ ((b, .cells cs' E (0, 0)) :: ((fs.eraseIdx z).flatten ++ fj ++ (((φ.set j []).eraseIdx i).flatten ++ X.F)))) := List.perm_middle.symm
      exact (hsh.perm e1).tail
    have hcomm : (φ.set i F1).set j [] = (φ.set j []).set i F1 := by rw [List.set_comm _ _ hne]
    have hsh3 : SH X.e w' m (((φ.set i F1).set j []).flatten ++ X.F) := by
      refine hsh2.perm ?_
      rw [hcomm]
      refine List.Perm.symm ((List.Perm.append_right _ s2.2).trans ?_)
      rw [hF1]
      simp only [List.cons_append]
      refine List.Perm.cons _ ?_
      rw [List.append_assoc]
      refine (List.Perm.append_right _ hfz.2).trans ?_
      rw [List.append_assoc, List.append_assoc]
      exact List.perm_append_comm_assoc _ _ _
    refine hK _ w' ⟨l', (i, .slo E E' t (xs.set z ys)) :: (j, .dead) :: st.H, st.n⟩ m ρ' ((φ.set i F1).set j []) ⟨hc.mle, ?_, by rw [hρ', List.length_set]; exact hc.nρ, hφ', ?_, ?_, hsh3⟩ k
    · intro q hq hqv
      have hql := (List.getElem?_eq_some_iff.1 hqv).1
      rw [hρo q (by omega)]
      exact hc.pre q hq hqv
    · intro q a' ha'
      obtain ⟨n1, n2⟩ := subR_get hl q a' ha'
      obtain ⟨u, m1, m2⟩ := hc.slots q a' n1
      exact ⟨u, m1, nr_rep h7 hρi hρo a' n2 m2⟩
    · intro q hd fq hq hfq
      rw [AH.get_cons]
      split
      · rename_i e'
        subst e'
        rw [hρi] at hq
        cases hq
        rw [List.getElem?_set_ne (fun e => hne e.symm), List.getElem?_set_self (by rw [hc.nφ, ← hc.nρ]; exact hil)] at hfq
        cases hfq
        refine ⟨rs', fs.set z fj, [(b, .cells cs' E (0, 0))], b, c0, cs', by simp, hF1, rfl, by simpa using g1, by simpa using g2, g3, by rw [hcs', splice_size]; exact g4, ?_, ?_⟩
        · rw [List.length_set, hcs', splice_over, hrs', ← g5]
          apply List.ext_getElem?
          intro q
          have hcl : cs.toList.length = c0 := by simpa using g4
          rw [List.getElem?_take, over_get _ _ _ _ (by simp; omega), List.getElem?_set, List.getElem?_take]
          simp only [List.length_cons, List.length_nil]
          by_cases hqz : z = q
          · subst hqz
            rw [if_pos hzl, if_pos (by omega), if_pos rfl]
            simp [hzl]
            omega
          · have hn : ¬ (z ≤ q ∧ q < z + (0 + 1)) := by omega
            by_cases hq2 : q < xs.length
            · rw [if_pos hq2, if_neg hn, if_neg hqz, if_pos hq2]
            · rw [if_neg hq2, if_neg hqz, if_neg hq2]
        · rw [hrs']
          have := g6.set (k := z) hrow
          rwa [List.set_set, List.set_set] at this
      · rename_i e'
        rw [AH.get_cons]
        have e'' : q ≠ i := fun h => e' h.symm
        split
        · rename_i e3
          subst e3
          rw [List.getElem?_set_self (by simp; rw [hc.nφ, ← hc.nρ]; exact hjl)] at hfq
          cases hfq
          rfl
        · rename_i e3
          rw [List.getElem?_set_ne (fun h => e3 h), List.getElem?_set_ne (fun h => e' h)] at hfq
          rw [hρo q e''] at hq
          have hoq := hc.objs q hd fq hq hfq
          have hqn : q < st.n := by rw [← hc.nρ]; exact (List.getElem?_eq_some_iff.1 hq).1
          have hnr := (List.all_eq_true.1 ho) q (List.mem_range.2 hqn)
          cases hg : st.H.get q with
          | var T1 cs1 =>
            rw [hg] at hoq hnr
            obtain ⟨b1, us, t1, t2, t3, t4⟩ := hoq
            exact ⟨b1, us, t1, t2, nr_repL h7 hρi hρo cs1 hnr t3, t4⟩
          | dead => rw [hg] at hoq; exact hoq
          | sl T1 t1 x1 => rw [hg] at hoq; exact hoq
          | map tk tv x1 => rw [hg] at hoq; exact hoq
          | slo T1 T2 t1 x1 => rw [hg] at hoq; exact hoq
          | guest p1 => rw [hg] at hoq; exact hoq
          | mit => rw [hg] at hoq; exact hoq
          | bld => rw [hg] at hoq; exact hoq
          | sloh T1 T2 t1 x1 z1 j1 =>
            rw [hg] at hoq hnr
            simp only [noRowO] at hnr
            obtain ⟨r1, f1, f2, b1, c1, c2, r2, u1, u2, u3, u4, u5, u6, u7, u8, u9, u10, u11, u12, u13⟩ := hoq
            exact ⟨r1, f1, f2, b1, c1, c2, r2, u1, u2, u3, u4, u5, u6, u7, u8, u9, u10, u11, u12, by rw [hρo _ (ne_of_beq hnr)]; exact u13⟩
          | mapr tk1 tv1 x1 left1 cur1 j1 =>
            rw [hg] at hoq hnr
            simp only [noRowO] at hnr
            obtain ⟨b1, es, cl, r1, s1, c1, sn, t1, t2, t3, t4⟩ := hoq
            exact ⟨b1, es, cl, r1, s1, c1, sn, t1, t2, by rw [hρo _ (ne_of_beq hnr)]; exact t3, t4⟩
          | mpt k1 v1 x1 hs1 =>
            rw [hg] at hoq hnr
            simp only [noRowO, List.all_eq_true] at hnr
            obtain ⟨h0, h00, b1, es, cl, fs, t1, t2, t3, t4, t5, t6⟩ := hoq
            refine ⟨h0, fun q hq => ?_, b1, es, cl, fs, t1, t2, t3, t4, t5, fun i p e g a1 a2 a3 => ?_⟩
            · exact (h00 q hq).tr (fun u hu => by rw [hρo _ (ne_of_beq (hnr _ hq))]; exact hu)
            · obtain ⟨c1, c2, c3⟩ := t6 i p e g a1 a2 a3
              exact ⟨c1, fun n hn => ⟨(c2 n hn).1, by rw [hρo _ (ne_of_beq (hnr _ hn))]; exact (c2 n hn).2⟩, c3⟩

end
end Go.Ab


set_option linter.unusedVariables false
set_option linter.unusedSimpArgs false
namespace Go.Ab
open Go.RowKit Go.Shelf Go.Proofs Go.Eng

/-! arrays of whole numbers -/
theorem expl_arr {n : Nat} {k : IntKind} {x : List Int} : expl (.arr n (.int k)) x = (List.range n).map fun i => AV.int k (x.getD i 0) := by
  show (List.range n).flatMap (fun i => [AV.int k (x.getD i 0)]) = _
  induction List.range n with
  | nil => rfl
  | cons a l ih => simp only [List.flatMap_cons, List.map_cons, ih]; rfl
theorem expl_arr_get {n : Nat} {k : IntKind} {x : List Int} {i : Nat} : (expl (.arr n (.int k)) x)[i]? = if i < n then some (AV.int k (x.getD i 0)) else none := by
  rw [expl_arr, List.getElem?_map]
  split
  · rename_i h; rw [List.getElem?_range h]; rfl
  · rename_i h; rw [List.getElem?_eq_none (by simpa using h)]; rfl
theorem expl_arr_len {n : Nat} {k : IntKind} {x : List Int} : (expl (.arr n (.int k)) x).length = n := by rw [expl_arr]; simp
/-- An element of an array. -/
def aix (n : Nat) (x : List Int) (a : Int) : Option Int := bif Nat.beq x.length n then ix x a else none
theorem aix_some {n : Nat} {x : List Int} {a e : Int} (h : aix n x a = some e) : x.length = n ∧ 0 ≤ a ∧ a < n ∧ x[a.toNat]? = some e := by
  unfold aix at h
  cases hb : Nat.beq x.length n with
  | false => rw [hb] at h; cases h
  | true =>
    rw [hb] at h
    have hl := Nat.eq_of_beq_eq_true hb
    obtain ⟨h1, h2, h3⟩ := ix_some h
    have := (List.getElem?_eq_some_iff.1 h3).1
    exact ⟨hl, h1, by omega, h3⟩
theorem aix_b {n : Nat} {x : List Int} {a e : Int} (h : aix n x a = some e) : (decide (0 ≤ a) && decide (a < (n : Int))) = true := by
  obtain ⟨_, h1, h2, _⟩ := aix_some h
  simp [h1, h2]
theorem aix_o {a : Int} : 0 + a.toNat * 1 = a.toNat := by omega
theorem aix_ld {n : Nat} {k : IntKind} {x : List Int} {a e : Int} (h : aix n x a = some e) : (expl (.arr n (.int k)) x).drop a.toNat = .int k e :: (expl (.arr n (.int k)) x).drop (a.toNat + 1) := by
  obtain ⟨h0, h1, h2, h3⟩ := aix_some h
  have hl : a.toNat < (expl (.arr n (.int k)) x).length := by rw [expl_arr_len]; omega
  rw [List.drop_eq_getElem_cons hl]
  congr 1
  have := expl_arr_get (n := n) (k := k) (x := x) (i := a.toNat)
  rw [List.getElem?_eq_getElem hl, if_pos (by omega), List.getD_eq_getElem?_getD, h3] at this
  exact Option.some.inj this
theorem aix_le {n : Nat} {k : IntKind} {x : List Int} {a e : Int} (h : aix n x a = some e) : Nat.ble (a.toNat + 1) (expl (.arr n (.int k)) x).length = true := by
  obtain ⟨h0, h1, h2, h3⟩ := aix_some h
  rw [expl_arr_len, Nat.ble_eq]; omega
theorem aix_st {n : Nat} {k : IntKind} {x : List Int} {a e v : Int} (h : aix n x a = some e) : over (expl (.arr n (.int k)) x) a.toNat [.int k v] = expl (.arr n (.int k)) (x.set a.toNat v) := by
  obtain ⟨h0, h1, h2, h3⟩ := aix_some h
  apply List.ext_getElem?
  intro i
  rw [over_get _ _ _ _ (by rw [expl_arr_len]; simp; omega), expl_arr_get, expl_arr_get]
  simp only [List.length_cons, List.length_nil]
  by_cases e1 : a.toNat = i
  · subst e1
    rw [if_pos (by omega), if_pos (by omega), List.getD_eq_getElem?_getD, List.getElem?_set_self (by omega)]
    simp
  · rw [if_neg (by omega)]
    split
    · rw [List.getD_eq_getElem?_getD, List.getD_eq_getElem?_getD, List.getElem?_set_ne e1]
    · rfl
theorem fit_arr {n : Nat} {k : IntKind} {x : List Int} (h : Nat.beq x.length n = true) : Ty.fit (.arr n (.int k)) x = true := by
  show (Nat.beq x.length n && x.all fun y => true) = true
  rw [h]; simp
theorem fit_arr1 {n : Nat} {k : IntKind} {x : List Int} (h : Nat.beq x.length n = true) : (([x] : List (Ty.arr n (.int k)).den).all fun y => Ty.fit (.arr n (.int k)) y) = true := by
  simp only [List.all_cons, List.all_nil, Bool.and_true]
  exact fit_arr h
theorem expl_beq {n : Nat} {k : IntKind} {x : List Int} : Nat.beq (expl (.arr n (.int k)) x).length n = true := by rw [expl_arr_len]; exact Nat.beq_refl n
theorem expl_ble {n : Nat} {k : IntKind} {x : List Int} : Nat.ble (0 + n) (expl (.arr n (.int k)) x).length = true := by rw [expl_arr_len, Nat.ble_eq]; omega
theorem expl_take {n : Nat} {k : IntKind} {x : List Int} : (expl (.arr n (.int k)) x).take n = expl (.arr n (.int k)) x := List.take_of_length_le (by rw [expl_arr_len]; exact Nat.le_refl _)
theorem expl_take0 {n : Nat} {k : IntKind} {x : List Int} : ((expl (.arr n (.int k)) x).drop 0).take n = expl (.arr n (.int k)) x := expl_take
theorem over_all {n : Nat} {k : IntKind} {x y : List Int} : over (expl (.arr n (.int k)) x) 0 (expl (.arr n (.int k)) y) = expl (.arr n (.int k)) y := by
  apply List.ext_getElem?
  intro i
  rw [over_get _ _ _ _ (by rw [expl_arr_len, expl_arr_len]; omega), expl_arr_len]
  split
  · rw [Nat.sub_zero]
  · rename_i h
    rw [expl_arr_get, expl_arr_get, if_neg (by omega), if_neg (by omega)]
theorem lay_arr1 {n : Nat} {k : IntKind} {x : List Int} : layA (fun i => some (i * (Ty.arr n (.int k)).cells, (Ty.arr n (.int k)).cells)) (((List.replicate 1 (zeroV (.arr n (.int k)))).flatten).map ofV1) [(0, expl (.arr n (.int k)) x)] = some (expl (.arr n (.int k)) x) := by
  have hc : (Ty.arr n (.int k)).cells = n := by simp [Ty.cells]
  have hz : ((((List.replicate 1 (zeroV (.arr n (.int k)))).flatten).map ofV1).length) = n := by
    simp [zeroV]
  simp only [layA, hc, Nat.zero_mul, expl_arr_len, hz, Nat.zero_add, Nat.beq_refl, show Nat.ble n n = true from by rw [Nat.ble_eq]; exact Nat.le_refl n, Bool.and_self, cond_true]
  congr 1
  apply List.ext_getElem?
  intro i
  rw [over_get _ _ _ _ (by rw [expl_arr_len, hz]; omega), expl_arr_len]
  split
  · rw [Nat.sub_zero]
  · rename_i h
    rw [expl_arr_get, if_neg (by omega), List.getElem?_eq_none (by rw [hz]; omega)]
theorem lay_y1 {t : Ty} {x : t.den} : (([x] : List t.den).map (expl t)).flatten = expl t x := by simp
theorem rv_arr {m : Mem} {n : Nat} {k : IntKind} {x : List Int} {v : Value} (h : RV m (.arr n (.int k)) x v) : x.length = n ∧ v = .agg (x.map fun z => Value.int k z).toArray := by
  unfold RV at h
  rw [if_pos (show (Ty.arr n (.int k)).agg = true from rfl)] at h
  obtain ⟨cs, rfl, hl, us, h1, rfl, h3⟩ := h
  refine ⟨hl, ?_⟩
  congr 2
  have e : us = x.map fun z => [Value.int k z] := by
    apply List.ext_getElem?
    intro i
    rw [List.getElem?_map]
    rcases Nat.lt_or_ge i n with hi | hi
    · have g1 : x[i]? = some (x[i]'(by omega)) := List.getElem?_eq_getElem _
      have g2 : us[i]? = some (us[i]'(by omega)) := List.getElem?_eq_getElem _
      have := h3 i _ _ g1 g2
      rw [g1, g2]
      have h4 : us[i]'(by omega) = [Value.int k (x[i]'(by omega))] := this
      rw [h4]; rfl
    · rw [List.getElem?_eq_none (by omega), List.getElem?_eq_none (by omega)]; rfl
  rw [e]
  clear e h3 h1 hl
  induction x with
  | nil => rfl
  | cons a l ih => simp only [List.map_cons, List.flatten_cons, ih]; rfl

theorem pairs_ints {P : Program} {E : TypeId} {k : IntKind} (hE : P.underlying E = some (.int k)) : ∀ {x y : List Int}, x.length = y.length → pairsA P E (x.map fun z => Value.int k z) (y.map fun z => Value.int k z) = true := by
  intro x
  induction x with
  | nil => intro y h; cases y with
    | nil => rfl
    | cons => simp at h
  | cons a x ih => intro y h; cases y with
    | nil => simp at h
    | cons b y => simp only [List.map_cons, pairsA, pairB, hE, decide_true, Bool.true_and]; exact ih (by simpa using h)
theorem eq_ints {k : IntKind} : ∀ {x y : List Int}, x.length = y.length → andAll (eqCells (x.map fun z => Value.int k z) (y.map fun z => Value.int k z)) = decide (x = y) := by
  intro x
  induction x with
  | nil => intro y h; cases y with
    | nil => rfl
    | cons => simp at h
  | cons a x ih => intro y h; cases y with
    | nil => simp at h
    | cons b y =>
      have ih := ih (y := y) (by simpa using h)
      simp only [List.map_cons, eqCells, cellEq]
      cases hr : eqCells (x.map fun z => Value.int k z) (y.map fun z => Value.int k z) with
      | nil =>
        rw [hr] at ih
        have hxy : x = y := by
          have : decide (x = y) = true := ih.symm
          simpa using this
        subst hxy
        simp [andAll]
      | cons c l =>
        rw [hr] at ih
        simp only [andAll]
        rw [ih]
        by_cases h1 : a = b <;> by_cases h2 : x = y <;> simp [h1, h2]
/-- Arrays of whole numbers as keys. -/
theorem keyT_arr {P : Program} {kT E : TypeId} {n : Nat} {k : IntKind} [inst : DecidableEq (Ty.arr n (.int k)).den] (hU : P.underlying kT = some (.array n E)) (hE : P.underlying E = some (.int k)) (hc : P.cellsOf E = 1) (hi : (P.info? E).isSome = true) : KeyT P kT (.arr n (.int k)) := by
  have hb : basicB P E = true := by simp [basicB, hE]
  have heq : ∀ (w : World) {x y : List Int}, x.length = n → y.length = n → (Op.equal kT (.agg (x.map fun z => Value.int k z).toArray) (.agg (y.map fun z => Value.int k z).toArray)).run P w = .ok (decide (x = y)) w := fun w x y hx hy => by
    refine Eq.trans (run_eqArr (d := 9998) hU hb hc hi (by simp [hx]) (pairs_ints hE (hx.trans hy.symm))) ?_
    rw [eq_ints (k := k) (hx.trans hy.symm)]
    congr
  refine ⟨fun m x v em w h => ?_, fun m x v tv xs es w hk he => ?_, fun m x u v w hu hv => ?_⟩
  · obtain ⟨hl, rfl⟩ := rv_arr h
    obtain ⟨i, hi⟩ := Option.isSome_iff_exists.1 hi
    rw [show (10000 : Nat) = 9999 + 1 from rfl, Instr.checkKey]
    simp only [Sem.run_bind, run_underlying hU, Result.andThen_ok]
    simp only [Std.Legacy.Range.forIn_eq_forIn_range', Std.Legacy.Range.size, Nat.sub_zero, Nat.add_one_sub_one, Nat.div_one]
    have key : ∀ (is : List Nat), (∀ j ∈ is, j < n) → (forIn is PUnit.unit fun i r => do
        Instr.checkKey em 9999 E (← part E (x.map fun z => Value.int k z).toArray (i * (← sizeOf E)))
        pure (ForInStep.yield PUnit.unit) : Sem PUnit).run P w = .ok PUnit.unit w := by
      intro is
      induction is with
      | nil => intro _; simp
      | cons j is ih =>
        intro hj
        have hjn := hj j (by simp)
        have hv : (x.map fun z => Value.int k z).toArray[j * 1]? = some (.int k (x[j]'(by omega))) := by simp [hl, hjn]
        have p1 := run_part (P := P) (w := w) hb hv
        have p2 : (Instr.checkKey em 9999 E (.int k (x[j]'(by omega)))).run P w = .ok () w := by
          rw [show (9999 : Nat) = 9998 + 1 from rfl, Instr.checkKey]; simp [run_underlying hE]
        simp only [List.forIn_cons, Sem.run_bind, run_sizeOf w hi, hc, Result.andThen_ok, p1, p2, Sem.run_pure]
        exact ih (fun y hy => hj y (by simp [hy]))
    have := key (List.range' 0 n) (fun j hj => by simpa using hj)
    simp at this
    simp [this]
  · obtain ⟨hl, rfl⟩ := rv_arr hk
    have ask : ∀ {xs : List (List Int × tv.den)} {es : List MapEntry} (i : Nat), EntL m (.arr n (.int k)) tv xs es → ∃ r, (Instr.findAsking kT (.agg (x.map fun z => Value.int k z).toArray) es i).run P w = .ok r w ∧ match r with
        | none => mget (α := (Ty.arr n (.int k)).den) xs x = none
        | some (q, u) => i ≤ q ∧ ∃ y, mget (α := (Ty.arr n (.int k)).den) xs x = some y ∧ RV m tv y u ∧ (xs[q - i]?).map (·.1) = some x ∧ (∃ e : MapEntry, es[q - i]? = some e) ∧ ∀ j, j < q - i → (xs[j]?).map (·.1) ≠ some x := by
      intro xs
      induction xs with
      | nil => intro es i h; cases es with
        | nil => exact ⟨none, by simp [Instr.findAsking], rfl⟩
        | cons => exact h.elim
      | cons p xs ih => intro es i h; cases es with
        | nil => exact h.elim
        | cons e es =>
          obtain ⟨hpl, hpe⟩ := rv_arr h.1.1
          simp only [Instr.findAsking, Sem.run_bind, hpe, heq w hl hpl, Result.andThen_ok]
          by_cases hkp : x = p.1
          · rw [decide_eq_true hkp]
            refine ⟨some (i, e.val), by simp, Nat.le_refl _, p.2, by simp [mget, hkp], h.1.2, by simp [hkp], ⟨e, by simp⟩, fun j hj => absurd hj (by omega)⟩
          · rw [decide_eq_false hkp]
            obtain ⟨r, h1, h2⟩ := ih (i + 1) h.2
            refine ⟨r, by simpa using h1, ?_⟩
            cases r with
            | none => simp only [mget, if_neg hkp]; exact h2
            | some q =>
              obtain ⟨q, u⟩ := q
              obtain ⟨h3, y, h4, h5, h6, ⟨e', h7⟩, h8⟩ := h2
              have hq : q - i = (q - (i + 1)) + 1 := by omega
              refine ⟨by omega, y, by simp only [mget, if_neg hkp]; exact h4, h5, by rw [hq]; simpa using h6, ⟨e', by rw [hq]; simpa using h7⟩, fun j hj => ?_⟩
              cases j with
              | zero => simp; exact fun e => hkp e.symm
              | succ j => simpa using h8 j (by omega)
    cases es with
    | nil =>
      refine ⟨none, by simp [Instr.findKey, run_underlying hU, Instr.findNow], ?_⟩
      cases xs with
      | nil => rfl
      | cons => exact he.elim
    | cons e es =>
      obtain ⟨r, h1, h2⟩ := ask 0 he
      refine ⟨r, ?_, ?_⟩
      · simp only [Instr.findKey, Sem.run_bind, run_underlying hU, Result.andThen_ok, Instr.findNow, Instr.sameNow]
        exact h1
      · cases r with
        | none => exact h2
        | some q =>
          obtain ⟨q, u⟩ := q
          obtain ⟨_, y, h3, h4, h5, h6, h7⟩ := h2
          exact ⟨y, h3, h4, by simpa using h5, by simpa using h6, by simpa using h7⟩
  · obtain ⟨hl, rfl⟩ := rv_arr hu
    obtain ⟨_, rfl⟩ := rv_arr hv
    have hs : Instr.sameBits 10000 (.agg (x.map fun z => Value.int k z).toArray) (.agg (x.map fun z => Value.int k z).toArray) = true := by
      show Instr.sameBits (9999 + 1) _ _ = true
      simp only [Instr.sameBits, beq_self_eq_true, Bool.true_and, List.all_eq_true]
      intro p hp
      have : ∀ (l : List Int) (p : Value × Value), p ∈ (l.map fun z => Value.int k z).zip (l.map fun z => Value.int k z) → Instr.sameBits 9999 p.1 p.2 = true := by
        intro l
        induction l with
        | nil => intro p h; simp at h
        | cons a l ih =>
          intro p h
          simp only [List.map_cons, List.zip_cons_cons, List.mem_cons] at h
          rcases h with rfl | h
          · simp [Instr.sameBits]
          · exact ih p h
      exact this x p (by simpa using hp)
    simp [Instr.keyThatStays, hs]

section
variable {P : Program} {N : Ev} {X : Cx} {Q : APost} {st : AS}
variable {d : Nat} {T U T' : TypeId} {pos : String} {aft : Array Edge} {g : Option (Nat × Bool)} {x y z : Operand} {k ky : IntKind} {a b : Int}
/-- The head of an array that is read alone, as a slice. -/
theorem av_slice_rarr {n E : Nat} {xs : List Int} {hi : Option Operand} {h : Int} (hU : Und P T (.array n E)) (hS : Sz P E 1) (hx : aev st.l x = some (.rp (expl (.arr n (.int k)) xs))) (hf : Nat.beq xs.length n = true) (hh : osI st hi (n : Int) h) (hb : slOk 0 h n = true) (hn : Nat.ble n 140737488355328 = true) (hN : Nat.blt d N.n = true := by rfl) :
    AOpV P N X ⟨some d, .slice T x none hi none, U, pos, aft, g⟩ (.sl (.int k) (xs.take h.toNat)) st :=
  av_of rfl fun Q fr w m ρ φ hc => by
    simp only [slOk, Bool.and_eq_true, decide_eq_true_eq] at hb
    obtain ⟨⟨_, h1⟩, h2⟩ := hb
    have hl := Nat.eq_of_beq_eq_true hf
    have hn' := Nat.le_of_ble_eq_true hn
    obtain ⟨v, g1, g2⟩ := hc.ev hx
    simp only [RepA] at g2
    obtain ⟨bk, o, us, rfl, g3, g4, g5⟩ := g2
    have hul : us.length = n := by rw [g3.len, expl_arr_len]
    refine ⟨.slice (some ⟨bk, o, none⟩) h.toNat n, ?_, fun K hk => op_val rfl hN (fun ac ha => ?_) hk⟩
    · simp only [RepA, RC]
      refine ⟨_, _, _, rfl, by simp; omega, by omega, (by show h.toNat ≤ 140737488355328; omega), bk, o, fun _ => rfl, fun i y hy => ?_⟩
      have hi2 : i < h.toNat := by have := (List.getElem?_eq_some_iff.1 hy).1; simp at this; omega
      rw [List.getElem?_take, if_pos hi2] at hy
      have q1 : (expl (.arr n (.int k)) xs)[i]? = some (.int k y) := by
        rw [expl_arr_get, if_pos (by omega), List.getD_eq_getElem?_getD, hy]; rfl
      obtain ⟨u, q2, q3⟩ := g3.get q1
      simp only [RepA] at q3
      subst q3
      refine ⟨[.int k y], rfl, fun j v hj => ?_⟩
      cases j with
      | succ j => simp at hj
      | zero =>
        simp at hj
        subst hj
        obtain ⟨cs, T', fr', q4, q5⟩ := g4 i _ q2
        exact ⟨cs, T', fr', q4, by rw [← q5]; congr 1; simp [Ty.cells]⟩
    · have e2 := osI_val hc hh ha
      have hr := run_bounds (P := P) (isS := false) (len := n) (cap := n) (lo := none) (hi := hi.map ac.eval) (l := 0) (h := h) rfl e2 (Int.le_refl _) h1 (by omega) w
      simp [execOp, Instr.sliceAt, Instr.sureAddr, ha.eval g1, run_underlying hU, hr, hS w, add_lit]
end
end Go.Ab

