/- Lemmas for a law of the seat: what functions of the program do, each stated as a contract of its own (module AbF). -/
import Derived.Test.YtjagcoeihmhabaaAbE
set_option linter.unusedVariables false
set_option linter.unusedSimpArgs false
namespace Go.Ab
open Go.RowKit Go.Shelf Go.Proofs Go.Eng

theorem flatten_at {α : Type} : ∀ {us : List (List α)} {c j : Nat} {v : α}, (∀ u ∈ us, u.length = c) → us.flatten[j]? = some v → ∃ z r u, j = z * c + r ∧ us[z]? = some u ∧ u[r]? = some v := by
  intro us
  induction us with
  | nil => intro c j v _ h; simp at h
  | cons w us ih =>
    intro c j v hall h
    have hw := hall w (by simp)
    rw [List.flatten_cons] at h
    rcases Nat.lt_or_ge j w.length with hj | hj
    · rw [List.getElem?_append_left hj] at h
      exact ⟨0, j, w, by omega, rfl, h⟩
    · rw [List.getElem?_append_right hj] at h
      obtain ⟨z, r, u, h1, h2, h3⟩ := ih (fun u hu => hall u (by simp [hu])) h
      exact ⟨z + 1, r, u, by rw [Nat.add_mul]; omega, by simpa using h2, h3⟩

theorem choose_rows {m : Mem} {t : Ty} {xs : List t.den} {b o : Nat} (h : ∀ (i : Nat) (y : t.den), xs[i]? = some y → ∃ us, RC m t y us ∧ CellsM m b (o + i * t.cells) us) : ∃ vs, RowsC m t xs vs ∧ CellsM m b o vs := by
  have h' : ∀ i, ∃ u, ∀ y, xs[i]? = some y → RC m t y u ∧ CellsM m b (o + i * t.cells) u := by
    intro i
    cases hi : xs[i]? with
    | none => exact ⟨[], fun y hy => by cases hy⟩
    | some y => obtain ⟨u, h1, h2⟩ := h i y hi; exact ⟨u, fun y' hy => by cases hy; exact ⟨h1, h2⟩⟩
  obtain ⟨U, hU⟩ := Classical.axiomOfChoice h'
  have hat : ∀ (i : Nat) (u : List Value), ((List.range xs.length).map U)[i]? = some u → i < xs.length ∧ u = U i := by
    intro i u hu
    have hl := (List.getElem?_eq_some_iff.1 hu).1
    simp at hl
    rw [List.getElem?_map, List.getElem?_range hl] at hu
    exact ⟨hl, (Option.some.inj hu).symm⟩
  refine ⟨((List.range xs.length).map U).flatten, ⟨_, by simp, rfl, fun i y u hy hu => ?_⟩, ?_⟩
  · obtain ⟨_, rfl⟩ := hat i u hu
    exact (hU i y hy).1
  · intro j v hj
    obtain ⟨z, r, u, rfl, h2, h3⟩ := flatten_at (c := t.cells) (fun u hu => by
      obtain ⟨i, hi, rfl⟩ := List.getElem_of_mem hu
      obtain ⟨hl, e⟩ := hat i _ (List.getElem?_eq_getElem hi)
      rw [e]
      exact (hU i _ (List.getElem?_eq_getElem hl)).1.len) hj
    obtain ⟨hl, rfl⟩ := hat z u h2
    have := (hU z _ (List.getElem?_eq_getElem hl)).2 r v h3
    rw [Nat.add_assoc] at this; exact this

/-- A slice that is read: nothing in it, or where its rows stand. -/
theorem rc_slice {m : Mem} {t : Ty} {xs : List t.den} {v : Value} (h : RC m (.slice t) xs [v]) : ∃ A c, v = .slice A xs.length c ∧ xs.length ≤ c ∧ xs.length ≤ cap47 ∧ ((xs = []) ∨ ∃ b o vs, A = some ⟨b, o, none⟩ ∧ RowsC m t xs vs ∧ CellsM m b o vs) := by
  simp only [RC] at h
  obtain ⟨A, n, c, h1, h2, h3, h4, b, o, h5, h6⟩ := h
  cases h1
  subst h2
  refine ⟨A, c, rfl, h3, h4, ?_⟩
  cases hx : xs with
  | nil => exact .inl rfl
  | cons y ys =>
    rw [← hx]
    obtain ⟨vs, h7, h8⟩ := choose_rows h6
    exact .inr ⟨b, o, vs, h5 (by rw [hx]; simp), h7, h8⟩
theorem rows_slice {m : Mem} {t : Ty} {xs : List t.den} {b c : Nat} {cs : Array Value} {T : TypeId} {fr : Nat × Nat} {vs : List Value} (hb : m b = some (.cells cs T fr)) (h : RowsC m t xs vs) (ht : cs.toList.take (xs.length * t.cells) = vs) (hc : xs.length ≤ c) (hn : xs.length ≤ cap47) : RC m (.slice t) xs [.slice (some ⟨b, 0, none⟩) xs.length c] := by
  simp only [RC]
  refine ⟨_, _, c, rfl, rfl, hc, hn, b, 0, fun _ => rfl, fun i y hy => ?_⟩
  obtain ⟨u, h1, h2⟩ := h.at hy
  refine ⟨u, h1, fun j v hj => ⟨cs, T, fr, hb, ?_⟩⟩
  have := h2 j v hj
  rw [← ht, List.getElem?_take] at this
  split at this
  · simpa using this
  · cases this

/-- What the machine bears of a slice. -/
def apOk (bytes n : Nat) : Bool := Nat.ble (n * bytes) cap47

section
variable {P : Program} {N : Ev} {X : Cx} {Q : APost} {st : AS}
variable {d : Nat} {T U T' : TypeId} {pos : String} {aft : Array Edge} {g : Option (Nat × Bool)} {x y : Operand} {k ky : IntKind} {a b : Int}

/-- Rows of the call's own behind an append. -/
theorem SH.grown {e w w' : World} {m : Mem} {f r : Frag} {E sz n : Nat} {v v' : Value} {vs : List Value} (h : SH e w m (f ++ r)) (hf : (v.ownBlock = none ∧ f = []) ∨ ∃ b o, v.ownBlock = some b ∧ f = [(b, o)]) (hg : w.grownBy w' v.ownBlock) (ho : w'.ownsRow 0 E sz v' n vs) (hb : v'.ownBlock = v.ownBlock ∨ v'.ownBlock = some w.heap.size) :
    ∃ f', SH e w' m (f' ++ r) ∧ ((v' = .slice none 0 0 ∧ n = 0 ∧ f' = []) ∨ ∃ g cap cur, v' = .slice (some ⟨g, 0, none⟩) n cap ∧ f' = [(g, .cells cur E (0, 0))] ∧ n ≤ cap ∧ cap ≤ maxLen ∧ cur.size = cap * sz ∧ cur.toList.take (n * sz) = vs) := by
  have hlt : ∀ x o', w.heap[x]? = some o' → x < w.heap.size := fun x o' hx => (Array.getElem?_eq_some_iff.1 hx).1
  have hkeep : ∀ x o', w.heap[x]? = some o' → some x ≠ v.ownBlock → w'.heap[x]? = some o' := fun x o' hx hn => (hg.block x (hlt _ _ hx) hn).trans hx
  have hmne : ∀ x o', m x = some o' → some x ≠ v.ownBlock := by
    intro x o' hx he
    rcases hf with ⟨h1, _⟩ | ⟨b, o, h1, rfl⟩
    · rw [h1] at he; cases he
    · rw [h1] at he; cases he
      have := h.dis (x, o) (by simp)
      simp only at this
      rw [hx] at this; cases this
  have hnd := h.nd
  rw [List.map_append, List.nodup_append] at hnd
  have hrne : ∀ p ∈ r, some p.1 ≠ v.ownBlock := by
    intro p hp he
    rcases hf with ⟨h1, _⟩ | ⟨b, o, h1, rfl⟩
    · rw [h1] at he; cases he
    · rw [h1] at he; cases he
      exact hnd.2.2 p.1 (by simp) p.1 (List.mem_map.2 ⟨p, hp, rfl⟩) rfl
  have hbase : SH e w' m r := ⟨hg.os.trans h.os, hg.tape.trans h.tape, hg.output.trans h.output, fun x o' hx => hkeep x o' (h.fz _ _ hx) (hmne x o' hx), fun p hp => hkeep _ _ (h.own p (by simp [hp])) (hrne p hp), hnd.2.1, fun p hp => h.dis p (by simp [hp]), fun p hp => h.noctl p (by simp [hp]), h.mctl⟩
  rcases ho.2 with ⟨rfl, rfl⟩ | ⟨q, cap, cur, rfl, _, h2, h3, h4, h5, h6⟩
  · exact ⟨[], by simpa using hbase, .inl ⟨rfl, rfl, rfl⟩⟩
  · refine ⟨[(q, .cells cur E (0, 0))], ?_, .inr ⟨q, cap, cur, rfl, rfl, h3, h4, h5, h6⟩⟩
    have hq : (∃ o, f = [(q, o)]) ∨ q = w.heap.size := by
      rcases hb with hb | hb
      · left
        rcases hf with ⟨h1, _⟩ | ⟨b, o, h1, rfl⟩
        · rw [h1] at hb; cases hb
        · rw [h1] at hb; cases hb; exact ⟨o, rfl⟩
      · right; cases hb; rfl
    have hqr : q ∉ r.map (·.1) := by
      intro hm
      rcases hq with ⟨o, rfl⟩ | rfl
      · exact hnd.2.2 q (by simp) q hm rfl
      · obtain ⟨p, hp, he⟩ := List.mem_map.1 hm
        have := hlt _ _ (h.own p (by simp [hp]))
        omega
    have hqm : m q = none := by
      cases hx : m q with
      | none => rfl
      | some o' =>
        rcases hq with ⟨o, rfl⟩ | rfl
        · have := h.dis (q, o) (by simp)
          simp only at this; rw [this] at hx; cases hx
        · have := hlt _ _ (h.fz _ _ hx); omega
    refine ⟨hbase.os, hbase.tape, hbase.output, hbase.fz, ?_, ?_, ?_, ?_, hbase.mctl⟩
    · intro p hp
      rcases List.mem_append.1 hp with hp | hp
      · rw [List.mem_singleton.1 hp]; exact h2
      · exact hbase.own p hp
    · simp only [List.singleton_append, List.map_cons, List.nodup_cons]; exact ⟨hqr, hbase.nd⟩
    · intro p hp
      rcases List.mem_append.1 hp with hp | hp
      · rw [List.mem_singleton.1 hp]; exact hqm
      · exact hbase.dis p hp
    · intro p hp
      rcases List.mem_append.1 hp with hp | hp
      · rw [List.mem_singleton.1 hp]; rfl
      · exact hbase.noctl p hp

theorem owns_of {m : Mem} {ρ : List Value} {E : TypeId} {t : Ty} {xs : List t.den} {h : Value} {f : Frag} {w : World} (ho : ORep m ρ (.sl E t xs) h f) (hw : ∀ p ∈ f, w.heap[p.1]? = some p.2) :
    ∃ vs, w.ownsRow 0 E t.cells h xs.length vs ∧ RowsC m t xs vs ∧ ((h.ownBlock = none ∧ f = []) ∨ ∃ b o, h.ownBlock = some b ∧ f = [(b, o)]) := by
  obtain ⟨_, ⟨rfl, rfl, rfl⟩ | ⟨b, c, cs, vs, rfl, rfl, h3, h4, h5, h6, h7⟩⟩ := ho
  · exact ⟨[], World.ownsRow_nil w 0 E t.cells, ⟨[], rfl, rfl, fun i y u hy => by simp at hy⟩, .inl ⟨rfl, rfl⟩⟩
  · exact ⟨vs, ⟨h6.len, .inr ⟨b, c, cs, rfl, Nat.zero_le _, hw (b, _) (List.mem_singleton.2 rfl), h3, h4, h5, h7⟩⟩, h6, .inr ⟨b, _, rfl, rfl⟩⟩

theorem RowsC.one {m : Mem} {t : Ty} {xs : List t.den} {vs : List Value} (h : RowsC m t xs vs) : ∀ v ∈ vs, v.oneCell' = true := by
  obtain ⟨us, h1, rfl, h3⟩ := h
  intro v hv
  obtain ⟨u, hu, hvu⟩ := List.mem_flatten.1 hv
  obtain ⟨i, hi, rfl⟩ := List.getElem_of_mem hu
  exact RC.one (h3 i (xs[i]'(by omega)) _ (List.getElem?_eq_getElem (by omega)) (List.getElem?_eq_getElem hi)) v hvu
theorem RowsC.nil {m : Mem} {t : Ty} : RowsC m t [] [] := ⟨[], rfl, rfl, fun i y u hy => by simp at hy⟩

theorem SH.tail {e w : World} {m : Mem} {f r : Frag} (h : SH e w m (f ++ r)) : SH e w m r := by
  have hnd := h.nd
  rw [List.map_append, List.nodup_append] at hnd
  exact ⟨h.os, h.tape, h.output, h.fz, fun p hp => h.own p (by simp [hp]), hnd.2.1, fun p hp => h.dis p (by simp [hp]), fun p hp => h.noctl p (by simp [hp]), h.mctl⟩

def AS.app (st : AS) (d i : Nat) (o : AO) : AS := ⟨(d, .osl st.n) :: st.l, (st.n, o) :: (i, .dead) :: st.H, st.n + 1⟩

/-- One object goes, one comes. -/
theorem Conc.swap {fr : Fr} {w w' : World} {m m' : Mem} {ρ : List Value} {φ : List Frag} (hc : Conc X st fr w m ρ φ) {i : Nat} {d : Nat} {av : AV} {v h0 h : Value} {f f' : Frag} {o : AO} (hi : ρ[i]? = some h0) (hf : φ[i]? = some f) (hm : m.le m') (hs : SH X.e w' m' (f' ++ ((φ.eraseIdx i).flatten ++ X.F))) (ho : ORep m' (ρ ++ [h]) o h f') (ha : RepA m' (ρ ++ [h]) av v) :
    Conc X ⟨(d, av) :: st.l, (st.n, o) :: (i, .dead) :: st.H, st.n + 1⟩ ((d, v) :: fr) w' m' (ρ ++ [h]) (φ.set i [] ++ [f']) := by
  have h2 : SH X.e w' m' ((φ.set i []).flatten ++ X.F) := hs.tail.perm (((frag_split hf []).2.append_right _).symm)
  have h1 : Conc X (st.upd i .dead) fr w' m' ρ (φ.set i []) := by
    refine ⟨hc.mle.trans hm, hc.pre, hc.nρ, by rw [List.length_set]; exact hc.nφ, fun t a ha => let ⟨v, h3, h4⟩ := hc.slots t a ha; ⟨v, h3, RepA.mono hm (fun _ _ h => h) a h4⟩, ?_, h2⟩
    intro j hd g hj hg
    simp only [AS.upd, AH.get_cons]
    by_cases e : i = j
    · subst e
      rw [if_pos rfl]
      rw [List.getElem?_set_self (List.getElem?_eq_some_iff.1 hf).1] at hg
      cases hg; rfl
    · rw [if_neg e]
      rw [List.getElem?_set_ne e] at hg
      exact (hc.objs j hd g hj hg).mono hm (fun _ _ h => h)
  refine h1.newObj (Mem.le_refl _) (hs.perm ?_) ho ha
  refine List.Perm.append_left _ ?_
  exact ((frag_split hf []).2.append_right _).symm

/-- What is appended, as the machine's lemma wants it. -/
theorem run_append {w : World} {m : Mem} {f : Frag} {E bytes n : Nat} {t : Ty} {ys : List t.den} {v u : Value} {vs : List Value} {e : World} {ty : TypeId} (hT : AppT P T E t.cells bytes) (hs : SH e w m f) (hown : w.ownsRow 0 E t.cells v n vs) (hy : RC m (.slice t) ys [u]) (hb : apOk bytes (n + ys.length) = true) (hn : n + ys.length ≤ cap47) :
    ∃ v' w' us, (Builtin.append_ #[T, T] ty #[v, u]).run P w = .ok v' w' ∧ RowsC m t ys us ∧ w'.ownsRow 0 E t.cells v' (n + ys.length) (vs ++ us) ∧ w.grownBy w' v.ownBlock ∧ (v'.ownBlock = v.ownBlock ∨ v'.ownBlock = some w.heap.size) := by
  obtain ⟨hU, hsz, i, z, hi, hz, hsize, hby, hzs⟩ := hT
  obtain ⟨A, c, rfl, h1, h2, h3⟩ := rc_slice hy
  have hb' := Nat.le_of_ble_eq_true hb
  rcases h3 with rfl | ⟨b, o, us, rfl, h4, h5⟩
  · -- nothing is appended
    refine ⟨v, w, [], ?_, RowsC.nil, by simpa using hown, ⟨rfl, rfl, rfl, Nat.le_refl _, fun _ _ _ => rfl⟩, .inl rfl⟩
    rcases hown.2 with ⟨rfl, rfl⟩ | ⟨q, cap, cur, rfl, _, g2, g3, _⟩
    · cases A with
      | none => simp [Builtin.append_, run_underlying hU, sizeOf, typeInfo, hi, Builtin.lenOf, Builtin.firstCells, loadCells, loadCellsFrom]
      | some A => simp [Builtin.append_, run_underlying hU, sizeOf, typeInfo, hi, Builtin.lenOf, Builtin.firstCells, loadCells, loadCellsFrom]
    · cases A with
      | none => simp [Builtin.append_, run_underlying hU, sizeOf, typeInfo, hi, Builtin.lenOf, Builtin.firstCells, loadCells, loadCellsFrom, g3, storeCells]
      | some A => simp [Builtin.append_, run_underlying hU, sizeOf, typeInfo, hi, Builtin.lenOf, Builtin.firstCells, loadCells, loadCellsFrom, g3, storeCells]
  · have hcells := h5.cells hs
    have hmax : n + ys.length ≤ maxLen := by
      have : cap47 = 140737488355328 := rfl
      simp only [maxLen]; omega
    obtain ⟨v', w', hr, g2, g3, g4, g5⟩ := run_append_own_at (P := P) (w := w) 0 T ty E i z t.cells bytes hU hi hz hsize hby hzs hsz v n vs hown ⟨b, o, none⟩ ys.length c us h4.len (fun j u hj => by rw [add_lit]; exact hcells j u hj) h4.one hmax hb' (Nat.zero_le _)
    exact ⟨v', w', us, hr, h4, g2, g3, g5⟩

theorem aop_append {s : Operand} {i E bytes : Nat} {t : Ty} {xs ys : List t.den} {cl : Array Operand} {ts : Array TypeId} {K : AS → Prop} (hcl : cl = #[s, x]) (hts : ts = #[T, T]) (hT : AppT P T E t.cells bytes) (hs : aev st.l s = some (.osl i)) (hx : aev st.l x = some (.sl t ys)) (hH : st.H.get i = .sl E t xs) (hb : apOk bytes (xs.length + ys.length) = true) (hB : Nat.ble 1 bytes = true)
    (k : K (st.app d i (.sl E t (xs ++ ys)))) (hN : Nat.blt d N.n = true := by rfl) :
    AOp P N X ⟨some d, .call ⟨.builtin .append, cl, ts⟩, U, pos, aft, g⟩ K st :=
  aop_of fun Q fr w m ρ φ hc K' hK => by
    subst hcl hts
    obtain ⟨v, h1, h2⟩ := hc.ev hs
    obtain ⟨u, h3, h4⟩ := hc.ev hx
    simp only [RepA] at h2 h4
    obtain ⟨f, hf, ho, hw⟩ := hc.obj h2.1
    rw [hH] at ho
    obtain ⟨vs, hown, hrow, hfs⟩ := owns_of ho hw
    have hlen : xs.length + ys.length ≤ cap47 := by
      have h5 := Nat.le_of_ble_eq_true hb
      have h6 := Nat.le_of_ble_eq_true hB
      exact Nat.le_trans (Nat.le_mul_of_pos_right _ h6) h5
    obtain ⟨v', w', us, hr, g1, g2, g3, g4⟩ := run_append (ty := U) hT hc.sh hown h4 hb hlen
    have hfr := hc.front hf
    obtain ⟨f', g5, g6⟩ := hfr.grown hfs g3 g2 g4
    have hone : v'.oneCell' = true := by
      rcases g6 with ⟨rfl, _⟩ | ⟨_, _, _, rfl, _⟩ <;> rfl
    refine op_val (v := v') (w' := w') rfl hN (fun a ha => ?_) ?_ (dk_grown hown g3)
    · simp [execOp, resolve, invoke, builtin, ha.eval h1, ha.eval h3, hr]
    · refine hK _ _ _ _ _ _ (hc.swap (h := v') (d := d) (av := .osl st.n) (v := v') h2.1 hf (Mem.le_refl _) g5 ?_ ?_) k
      · have hl : (xs ++ ys).length = xs.length + ys.length := by simp
        refine ⟨by rw [hl]; exact hlen, ?_⟩
        rcases g6 with ⟨rfl, h7, rfl⟩ | ⟨q, cap, cur, rfl, rfl, h8, h9, h10, h11⟩
        · left
          have hx0 : xs = [] := List.eq_nil_of_length_eq_zero (by omega)
          have hy0 : ys = [] := List.eq_nil_of_length_eq_zero (by omega)
          subst hx0 hy0
          exact ⟨rfl, rfl, rfl⟩
        · right
          exact ⟨q, cap, cur, vs ++ us, by rw [hl], rfl, by rw [hl]; exact h8, h9, h10, hrow.app g1, by rw [hl]; exact h11⟩
      · simp only [RepA]
        exact ⟨by rw [← hc.nρ]; simp, hone⟩
/-- Onto nil. -/
theorem aop_append_nil {s : Operand} {E bytes : Nat} {t : Ty} {ys : List t.den} {cl : Array Operand} {ts : Array TypeId} {K : AS → Prop} (hcl : cl = #[s, x]) (hts : ts = #[T, T]) (hT : AppT P T E t.cells bytes) (hs : aev st.l s = some .nils) (hx : aev st.l x = some (.sl t ys)) (hb : apOk bytes ys.length = true) (hB : Nat.ble 1 bytes = true)
    (k : K (st.new d (.osl st.n) (.sl E t ys))) (hN : Nat.blt d N.n = true := by rfl) :
    AOp P N X ⟨some d, .call ⟨.builtin .append, cl, ts⟩, U, pos, aft, g⟩ K st :=
  aop_of fun Q fr w m ρ φ hc K' hK => by
    subst hcl hts
    obtain ⟨v, h1, h2⟩ := hc.ev hs
    obtain ⟨u, h3, h4⟩ := hc.ev hx
    simp only [RepA] at h2 h4
    subst h2
    have hlen : 0 + ys.length ≤ cap47 := by
      have h5 := Nat.le_of_ble_eq_true hb
      have h6 := Nat.le_of_ble_eq_true hB
      rw [Nat.zero_add]
      exact Nat.le_trans (Nat.le_mul_of_pos_right _ h6) h5
    obtain ⟨v', w', us, hr, g1, g2, g3, g4⟩ := run_append (ty := U) (n := 0) hT hc.sh (World.ownsRow_nil w 0 E t.cells) h4 (by rw [Nat.zero_add]; exact hb) hlen
    obtain ⟨f', g5, g6⟩ := SH.grown (f := []) (r := φ.flatten ++ X.F) (by simpa using hc.sh) (.inl ⟨rfl, rfl⟩) g3 g2 g4
    have hone : v'.oneCell' = true := by
      rcases g6 with ⟨rfl, _⟩ | ⟨_, _, _, rfl, _⟩ <;> rfl
    simp only [Nat.zero_add, List.nil_append] at g2 g6 hlen
    refine op_val (v := v') (w' := w') rfl hN (fun a ha => ?_) ?_ (dk_grown (World.ownsRow_nil w 0 E t.cells) g3)
    · simp [execOp, resolve, invoke, builtin, ha.eval h1, ha.eval h3, hr]
    · refine hK _ _ _ _ _ _ (hc.newObj (h := v') (d := d) (av := .osl st.n) (v := v') (Mem.le_refl _) g5 ?_ ?_) k
      · refine ⟨hlen, ?_⟩
        rcases g6 with ⟨rfl, h7, rfl⟩ | ⟨q, cap, cur, rfl, rfl, h8, h9, h10, h11⟩
        · left
          have hy0 : ys = [] := List.eq_nil_of_length_eq_zero (by omega)
          subst hy0
          exact ⟨rfl, rfl, rfl⟩
        · exact .inr ⟨q, cap, cur, us, rfl, rfl, h8, h9, h10, g1, h11⟩
      · simp only [RepA]
        exact ⟨by rw [← hc.nρ]; simp, hone⟩

/-! make -/
def zeroV : Ty → List Value
  | .int k => [.int k 0]
  | .bool => [.bool false]
  | .str => [.string (bstr [])]
  | .unit => []
  | .pair a b => zeroV a ++ zeroV b
  | .st a => zeroV a
  | .slice _ => [.slice none 0 0]
  | .arr n e => (List.replicate n (zeroV e)).flatten
theorem rc_zero (m : Mem) : ∀ (t : Ty), RC m t t.dflt (zeroV t) := by
  intro t
  induction t with
  | int k => rfl
  | bool => rfl
  | str => rfl
  | unit => rfl
  | pair a b iha ihb => exact ⟨_, _, rfl, iha, ihb⟩
  | st a ih => exact ih
  | slice e ih => exact ⟨none, 0, 0, rfl, rfl, Nat.le_refl _, Nat.zero_le _, 0, 0, fun h => absurd h (by omega), fun i y hy => by simp [Ty.dflt] at hy⟩
  | arr n e ih =>
    refine ⟨by simp [Ty.dflt], _, by simp, rfl, fun i y u hy hu => ?_⟩
    have h1 := List.mem_of_getElem? hy
    have h2 := List.mem_of_getElem? hu
    simp only [Ty.dflt] at h1
    rw [List.eq_of_mem_replicate h1, List.eq_of_mem_replicate h2]
    exact ih
/-- A type's zero. -/
def ZeroT (P : Program) (E : Nat) (t : Ty) (bytes : Nat) : Prop := ∃ i z, P.info? E = some i ∧ i.zero = some z ∧ i.size = t.cells ∧ i.bytes = bytes ∧ z.cells.toList = zeroV t
theorem zeroT_of {E : Nat} {t : Ty} {bytes : Nat} {z : Value} (h : (P.info? E).map (fun i => (i.zero, i.size, i.bytes)) = some (some z, t.cells, bytes)) (hz : z.cells.toList = zeroV t) : ZeroT P E t bytes := by
  cases hi : P.info? E with
  | none => rw [hi] at h; cases h
  | some i => rw [hi] at h; simp at h; exact ⟨i, z, hi, h.1, h.2.1, h.2.2, hz⟩
theorem made_rows {z : Array Value} {zs : List Value} (hz : z.toList = zs) (n : Nat) : (madeCells z (n * z.size)).toList = (List.replicate n zs).flatten := by
  subst hz
  apply List.ext_getElem?
  intro j
  rcases Nat.lt_or_ge j (n * z.size) with hj | hj
  · have hpos : 0 < z.size := Nat.pos_of_ne_zero (fun h => by rw [h] at hj; omega)
    have hl : (List.replicate n z.toList).flatten.length = n * z.size := by rw [flatten_len (k := z.size) (by simp : (List.replicate n z.toList).length = n)]; intro u hu; rw [List.eq_of_mem_replicate hu]; simp
    obtain ⟨v, hv⟩ : ∃ v, (List.replicate n z.toList).flatten[j]? = some v := ⟨_, List.getElem?_eq_getElem (by rw [hl]; exact hj)⟩
    rw [hv]
    obtain ⟨q, r, u, h1, h2, h3⟩ := flatten_at (c := z.size) (fun u hu => by rw [List.eq_of_mem_replicate hu]; simp) hv
    have hu := List.eq_of_mem_replicate (List.mem_of_getElem? h2)
    subst hu
    have hr := (List.getElem?_eq_some_iff.1 h3).1
    simp at hr
    have hmod : j % z.size = r := by rw [h1, Nat.add_comm, Nat.add_mul_mod_self_right, Nat.mod_eq_of_lt hr]
    simp only [madeCells, Array.toList_map, Array.toList_range, List.getElem?_map, List.getElem?_range hj, Option.map_some, hmod]
    have h4 : z[r]? = some v := by simpa using h3
    rw [getElem!_def, h4]
  · rw [List.getElem?_eq_none, List.getElem?_eq_none]
    · rw [flatten_len (k := z.size) (by simp : (List.replicate n z.toList).length = n)]
      · exact hj
      · intro u hu; rw [List.eq_of_mem_replicate hu]; simp
    · simp [madeCells]; exact hj
def mkOk (bytes : Nat) (l c : Int) : Bool := decide (0 ≤ l) && decide (l ≤ c) && Nat.ble (c.toNat * bytes) cap47
theorem aop_make {E bytes : Nat} {t : Ty} {l c : Int} {kl kc : IntKind} {K : AS → Prop} (hU : Und P T (.slice E)) (hZ : ZeroT P E t bytes) (hx : aev st.l x = some (.int kl l)) (hy : aev st.l y = some (.int kc c)) (hb : mkOk bytes l c = true) (hB : Nat.ble 1 bytes = true)
    (k : K (st.new d (.osl st.n) (.sl E t (List.replicate l.toNat t.dflt)))) (hN : Nat.blt d N.n = true := by rfl) :
    AOp P N X ⟨some d, .makeSlice T x y, U, pos, aft, g⟩ K st :=
  aop_of fun Q fr w m ρ φ hc K' hK => by
    obtain ⟨i, z, hi, hz, hsize, hby, hzs⟩ := hZ
    simp only [mkOk, Bool.and_eq_true, decide_eq_true_eq] at hb
    obtain ⟨⟨h0, hlc⟩, hbb⟩ := hb
    have hbb := Nat.le_of_ble_eq_true hbb
    have hB := Nat.le_of_ble_eq_true hB
    have hcc : c.toNat ≤ cap47 := Nat.le_trans (Nat.le_mul_of_pos_right _ hB) hbb
    have h47 : cap47 = 140737488355328 := rfl
    have hc0 : ((c.toNat : Nat) : Int) = c := by omega
    have hbi : (i.bytes : Int) * c ≤ 281474976710656 := by
      rw [hby, ← hc0, ← Int.natCast_mul, Nat.mul_comm]; omega
    have hr := run_make (P := P) w T E i z hU hi hz kl kc l c h0 hlc hbi (by omega)
    refine op_val (v := .slice (some ⟨w.heap.size, 0, none⟩) l.toNat c.toNat) rfl hN (fun a ha => ?_) ?_ (dk_new (new_push w (.cells (madeCells z.cells (c.toNat * i.size)) E)))
    · simp [execOp, ha.eval (hc.int hx), ha.eval (hc.int hy)]
      rw [hr]; rfl
    · have hs := hc.sh.alloc (new_push w (.cells (madeCells z.cells (c.toNat * i.size)) E)) rfl
      have hzsz : z.cells.size = t.cells := by have := (rc_zero m t).len; rw [← hzs] at this; simpa using this
      refine hK _ _ _ _ _ _ (hc.newObj (h := .slice (some ⟨w.heap.size, 0, none⟩) l.toNat c.toNat) (f := [(w.heap.size, .cells (madeCells z.cells (c.toNat * i.size)) E)]) (Mem.le_refl _) hs ?_ ?_) k
      · have hll : (List.replicate l.toNat t.dflt).length = l.toNat := by simp
        refine ⟨by rw [hll]; omega, .inr ⟨w.heap.size, c.toNat, _, (List.replicate l.toNat (zeroV t)).flatten, by rw [hll], rfl, by rw [hll]; omega, by simp only [maxLen]; omega, by rw [size_madeCells, hsize], ⟨_, by simp, rfl, fun j q u hq hu => ?_⟩, ?_⟩⟩
        · rw [List.eq_of_mem_replicate (List.mem_of_getElem? hq), List.eq_of_mem_replicate (List.mem_of_getElem? hu)]
          exact rc_zero m t
        · rw [hll, hsize, ← hzsz, made_rows hzs]
          have : c.toNat = l.toNat + (c.toNat - l.toNat) := by omega
          rw [this, ← List.replicate_append_replicate, List.flatten_append]
          refine List.take_left' ?_
          rw [flatten_len (k := z.cells.size) (by simp : (List.replicate l.toNat (zeroV t)).length = l.toNat)]
          intro u hu; rw [List.eq_of_mem_replicate hu, ← hzs]; simp
      · simp only [RepA]
        exact ⟨by rw [← hc.nρ]; simp, rfl⟩
end
end Go.Ab
