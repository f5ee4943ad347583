/- Lemmas for a law of the seat: what functions of the program do, each stated as a contract of its own (module AbE). -/
import Derived.Test.YtjagcoeihmhabaaAbD
import Derived.Laws.MakeOwn
set_option linter.unusedVariables false
set_option linter.unusedSimpArgs false
namespace Go.Ab
open Go.RowKit Go.Shelf Go.Proofs Go.Eng

/-! cells of a value -/
def cellsA : AV → Option (List AV)
  | .agg cs => some cs
  | .tup _ => none
  | .val _ => none
  | .clo _ => none
  | .any => none
  | .bad => none
  | a => some [a]
theorem rep_cells {m : Mem} {ρ : List Value} {a : AV} {cs : List AV} {v : Value} (h : cellsA a = some cs) (hr : RepA m ρ a v) : RepL m ρ cs v.cells.toList ∧ ∀ u ∈ v.cells.toList, u.oneCell' = true := by
  have one : ∀ {a : AV} {v : Value}, RepA m ρ a v → v.oneCell' = true → RepL m ρ [a] v.cells.toList ∧ ∀ u ∈ v.cells.toList, u.oneCell' = true := by
    intro a v h h1
    have hc : v.cells = #[v] := by cases v <;> simp [Value.oneCell'] at h1 <;> rfl
    rw [hc]
    refine ⟨by simp only [RepL]; exact ⟨h, trivial⟩, fun u hu => ?_⟩
    simp at hu; subst hu; exact h1
  cases a with
  | agg ds =>
    simp only [cellsA, Option.some.injEq] at h
    subst h
    simp only [RepA] at hr
    obtain ⟨us, rfl, h1, h2⟩ := hr
    exact ⟨by simpa [Value.cells] using h1, by simpa [Value.cells] using h2⟩
  | tup => simp [cellsA] at h
  | val => simp [cellsA] at h
  | clo => simp [cellsA] at h
  | sog i => simp only [cellsA, Option.some.injEq] at h; subst h; have h' := hr; simp only [RepA] at hr; obtain ⟨rs, _, h2⟩ := hr; exact one h' h2
  | epg i k => simp only [cellsA, Option.some.injEq] at h; subst h; have h' := hr; simp only [RepA] at hr; obtain ⟨b, n, c, rs, _, rfl⟩ := hr; exact one h' rfl
  | row i k => simp only [cellsA, Option.some.injEq] at h; subst h; have h' := hr; simp only [RepA] at hr; obtain ⟨hd, rs, _, _, h2⟩ := hr; exact one h' h2
  | epr i k sz z o => simp only [cellsA, Option.some.injEq] at h; subst h; have h' := hr; simp only [RepA] at hr; obtain ⟨hd, rs, b, n, c, _, _, rfl⟩ := hr; exact one h' rfl
  | any => simp [cellsA] at h
  | bad => simp [cellsA] at h
  | int k z => simp only [cellsA, Option.some.injEq] at h; subst h; have h' := hr; simp only [RepA] at hr; subst hr; exact one h' rfl
  | bool b => simp only [cellsA, Option.some.injEq] at h; subst h; have h' := hr; simp only [RepA] at hr; subst hr; exact one h' rfl
  | str s => simp only [cellsA, Option.some.injEq] at h; subst h; have h' := hr; simp only [RepA] at hr; subst hr; exact one h' rfl
  | sl t x => simp only [cellsA, Option.some.injEq] at h; subst h; have h' := hr; simp only [RepA, RC] at hr; obtain ⟨A, n, c, h1, _⟩ := hr; cases h1; exact one h' rfl
  | nils => simp only [cellsA, Option.some.injEq] at h; subst h; have h' := hr; simp only [RepA] at hr; subst hr; exact one h' rfl
  | rp cs => simp only [cellsA, Option.some.injEq] at h; subst h; have h' := hr; simp only [RepA] at hr; obtain ⟨b, o, us, rfl, _⟩ := hr; exact one h' rfl
  | ptr i o => simp only [cellsA, Option.some.injEq] at h; subst h; have h' := hr; simp only [RepA] at hr; obtain ⟨b, _, rfl⟩ := hr; exact one h' rfl
  | osl i => simp only [cellsA, Option.some.injEq] at h; subst h; have h' := hr; simp only [RepA] at hr; exact one h' hr.2
  | ep i sz z o => simp only [cellsA, Option.some.injEq] at h; subst h; have h' := hr; simp only [RepA] at hr; obtain ⟨b, n, c, _, rfl⟩ := hr; exact one h' rfl
  | map i => simp only [cellsA, Option.some.injEq] at h; subst h; have h' := hr; simp only [RepA] at hr; exact one h' hr.2
  | fn f first caps => simp only [cellsA, Option.some.injEq] at h; subst h; have h' := hr; simp only [RepA] at hr; obtain ⟨us, ws, rfl, _⟩ := hr; exact one h' rfl
  | nilp => simp only [cellsA, Option.some.injEq] at h; subst h; have h' := hr; simp only [RepA] at hr; subst hr; exact one h' rfl
  | nilf => simp only [cellsA, Option.some.injEq] at h; subst h; have h' := hr; simp only [RepA] at hr; subst hr; exact one h' rfl
  | nili => simp only [cellsA, Option.some.injEq] at h; subst h; have h' := hr; simp only [RepA] at hr; subst hr; exact one h' rfl
  | nilm => simp only [cellsA, Option.some.injEq] at h; subst h; have h' := hr; simp only [RepA] at hr; subst hr; exact one h' rfl
  | yld l => simp only [cellsA, Option.some.injEq] at h; subst h; have h' := hr; simp only [RepA] at hr; subst hr; exact one h' rfl

/-! a list of cells written over from a place on -/
def over {α : Type} (cs : List α) (o : Nat) : List α → List α
  | [] => cs
  | d :: ds => over (cs.set o d) (o + 1) ds
theorem RepL.set {m : Mem} {ρ : List Value} : ∀ {as' : List AV} {vs : List Value} {i : Nat} {a : AV} {v : Value}, RepL m ρ as' vs → RepA m ρ a v → RepL m ρ (as'.set i a) (vs.set i v) := by
  intro as'
  induction as' with
  | nil => intro vs i a v h _; cases vs with
    | nil => simpa using h
    | cons => simp [RepL] at h
  | cons b as' ih => intro vs i a v h ha; cases vs with
    | nil => simp [RepL] at h
    | cons u vs =>
      simp only [RepL] at h
      cases i with
      | zero => simp only [List.set_cons_zero, RepL]; exact ⟨ha, h.2⟩
      | succ i => simp only [List.set_cons_succ, RepL]; exact ⟨h.1, ih h.2 ha⟩
theorem RepL.over {m : Mem} {ρ : List Value} : ∀ {ds : List AV} {us : List Value} {cs : List AV} {vs : List Value} {o : Nat}, RepL m ρ cs vs → RepL m ρ ds us → RepL m ρ (over cs o ds) (Go.Ab.over vs o us) := by
  intro ds
  induction ds with
  | nil => intro us cs vs o h k; cases us with
    | nil => exact h
    | cons => simp [RepL] at k
  | cons d ds ih => intro us cs vs o h k; cases us with
    | nil => simp [RepL] at k
    | cons u us => simp only [RepL] at k; exact ih (h.set k.1) k.2
theorem splice_over : ∀ (vs : List Value) (cs : Array Value) (o : Nat), (splice cs o vs).toList = over cs.toList o vs := by
  intro vs
  induction vs with
  | nil => intro cs o; rfl
  | cons v vs ih => intro cs o; simp only [splice, over]; rw [ih]; simp
theorem over_one : ∀ {ds cs : List Value} {o : Nat}, (∀ u ∈ cs, u.oneCell' = true) → (∀ u ∈ ds, u.oneCell' = true) → ∀ u ∈ over cs o ds, u.oneCell' = true := by
  intro ds
  induction ds with
  | nil => intro cs o h _; exact h
  | cons d ds ih =>
    intro cs o h k
    refine ih (fun u hu => ?_) (fun u hu => k u (by simp [hu]))
    rcases List.mem_or_eq_of_mem_set hu with h1 | h1
    · exact h u h1
    · subst h1; exact k _ (by simp)
theorem over_len {α : Type} : ∀ (ds cs : List α) (o : Nat), (over cs o ds).length = cs.length := by
  intro ds
  induction ds with
  | nil => intro cs o; rfl
  | cons d ds ih => intro cs o; simp only [over]; rw [ih]; simp
theorem over_get {α : Type} : ∀ (ds cs : List α) (o i : Nat), o + ds.length ≤ cs.length → (over cs o ds)[i]? = if o ≤ i ∧ i < o + ds.length then ds[i - o]? else cs[i]? := by
  intro ds
  induction ds with
  | nil => intro cs o i _; simp only [over, List.length_nil, Nat.add_zero]; rw [if_neg (by omega)]
  | cons d ds ih =>
    intro cs o i h
    simp only [List.length_cons] at h ⊢
    simp only [over]
    rw [ih _ _ _ (by simp; omega), List.getElem?_set]
    by_cases h1 : o = i
    · subst h1
      rw [if_neg (by omega), if_pos rfl, if_pos (by omega), if_pos (by omega)]
      simp
    · rw [if_neg h1]
      by_cases h2 : o + 1 ≤ i ∧ i < o + 1 + ds.length
      · rw [if_pos h2, if_pos (by omega), show i - o = (i - (o + 1)) + 1 by omega, List.getElem?_cons_succ]
      · rw [if_neg h2, if_neg (by omega)]

/-! what is owned: made, written -/
section
variable {P : Program} {N : Ev} {X : Cx} {Q : APost} {st : AS}
variable {d : Nat} {T U T' : TypeId} {pos : String} {aft : Array Edge} {g : Option (Nat × Bool)} {x y : Operand} {k ky : IntKind} {a b : Int}

/-- One object more, seen in a slot. -/
def AS.new (st : AS) (d : Nat) (a : AV) (o : AO) : AS := ⟨(d, a) :: st.l, (st.n, o) :: st.H, st.n + 1⟩
def AS.upd (st : AS) (i : Nat) (o : AO) : AS := ⟨st.l, (i, o) :: st.H, st.n⟩

theorem pre_app {ρ : List Value} {h : Value} : ∀ (i : Nat) (u : Value), ρ[i]? = some u → (ρ ++ [h])[i]? = some u := by
  intro i u hi
  rw [List.getElem?_append_left (List.getElem?_eq_some_iff.1 hi).1]; exact hi

theorem Conc.newObj {fr : Fr} {w w' : World} {m m' : Mem} {ρ : List Value} {φ : List Frag} (hc : Conc X st fr w m ρ φ) {d : Nat} {av : AV} {v h : Value} {o : AO} {f : Frag} (hm : m.le m') (hs : SH X.e w' m' (f ++ (φ.flatten ++ X.F))) (ho : ORep m' (ρ ++ [h]) o h f) (ha : RepA m' (ρ ++ [h]) av v) :
    Conc X (st.new d av o) ((d, v) :: fr) w' m' (ρ ++ [h]) (φ ++ [f]) := by
  refine ⟨hc.mle.trans hm, fun i u hi => pre_app i u (hc.pre i u hi), by simp [AS.new, hc.nρ], by simp [AS.new, hc.nφ], ?_, ?_, ?_⟩
  · intro t b hb
    simp only [AS.new, AFr.look_cons] at hb
    rw [Fr.look_cons]
    split
    · rename_i e; rw [if_pos e] at hb; cases hb; exact ⟨v, rfl, ha⟩
    · rename_i e; rw [if_neg e] at hb
      obtain ⟨u, h1, h2⟩ := hc.slots t b hb
      exact ⟨u, h1, RepA.mono hm pre_app b h2⟩
  · intro i hd f' hi hf
    simp only [AS.new, AH.get_cons]
    by_cases e : st.n = i
    · subst e
      rw [if_pos rfl]
      rw [← hc.nρ, List.getElem?_append_right (Nat.le_refl _)] at hi
      rw [← hc.nφ, List.getElem?_append_right (Nat.le_refl _)] at hf
      simp at hi hf
      subst hi hf; exact ho
    · rw [if_neg e]
      have hil : i < ρ.length := by
        have := (List.getElem?_eq_some_iff.1 hi).1
        simp at this
        rw [hc.nρ] at this ⊢; omega
      rw [List.getElem?_append_left hil] at hi
      rw [List.getElem?_append_left (by rw [hc.nφ, ← hc.nρ]; exact hil)] at hf
      exact (hc.objs i hd f' hi hf).mono hm pre_app
  · refine hs.perm ?_
    rw [List.flatten_append, List.flatten_cons, List.flatten_nil, List.append_nil, List.append_assoc]
    exact List.perm_append_comm_assoc _ _ _

theorem perm_idx {α : Type} : ∀ {l : List α} {i : Nat} {x : α}, l[i]? = some x → l.Perm (x :: l.eraseIdx i) := by
  intro l
  induction l with
  | nil => intro i x h; simp at h
  | cons y l ih =>
    intro i x h
    cases i with
    | zero => simp at h; subst h; exact List.Perm.refl _
    | succ i => exact ((ih (by simpa using h)).cons y).trans (List.Perm.swap x y _)
theorem frag_split {φ : List Frag} {i : Nat} {f : Frag} (h : φ[i]? = some f) (f' : Frag) : (φ.flatten).Perm (f ++ (φ.eraseIdx i).flatten) ∧ ((φ.set i f').flatten).Perm (f' ++ (φ.eraseIdx i).flatten) := by
  have hl := (List.getElem?_eq_some_iff.1 h).1
  constructor
  · simpa using (perm_idx h).flatten
  · have h2 : (φ.set i f')[i]? = some f' := List.getElem?_set_self hl
    have := (perm_idx h2).flatten
    rw [List.eraseIdx_set_eq] at this; simpa using this

/-- An object's turn. -/
theorem Conc.turn {fr : Fr} {w w' : World} {m : Mem} {ρ : List Value} {φ : List Frag} (hc : Conc X st fr w m ρ φ) {i : Nat} {h : Value} {f f' : Frag} {o : AO} (hi : ρ[i]? = some h) (hf : φ[i]? = some f) (hs : SH X.e w' m (f' ++ ((φ.eraseIdx i).flatten ++ X.F))) (ho : ORep m ρ o h f') :
    Conc X (st.upd i o) fr w' m ρ (φ.set i f') := by
  refine ⟨hc.mle, hc.pre, hc.nρ, by rw [List.length_set]; exact hc.nφ, hc.slots, ?_, ?_⟩
  · intro j hd g hj hg
    simp only [AS.upd, AH.get_cons]
    by_cases e : i = j
    · subst e
      rw [if_pos rfl]
      rw [hi] at hj; cases hj
      rw [List.getElem?_set_self (List.getElem?_eq_some_iff.1 hf).1] at hg
      cases hg; exact ho
    · rw [if_neg e]
      rw [List.getElem?_set_ne e] at hg
      exact hc.objs j hd g hj hg
  · refine hs.perm ?_
    rw [← List.append_assoc]
    exact ((frag_split hf f').2.append_right _).symm
theorem Conc.front {fr : Fr} {w : World} {m : Mem} {ρ : List Value} {φ : List Frag} (hc : Conc X st fr w m ρ φ) {i : Nat} {f : Frag} (hf : φ[i]? = some f) : SH X.e w m (f ++ ((φ.eraseIdx i).flatten ++ X.F)) := by
  refine hc.sh.perm ?_
  rw [← List.append_assoc]
  exact (frag_split hf f).1.append_right _

theorem aop_of {o : Oper} {K : AS → Prop} (h : ∀ (Q : Post) fr w m ρ φ, Conc X st fr w m ρ φ → ∀ K' : Fr → World → Prop, (∀ fr' w' st' m' ρ' φ', Conc X st' fr' w' m' ρ' φ' → K st' → K' fr' w') → OpW P N o K' Q fr w) : AOp P N X o K st :=
  fun Q fr w m ρ φ hc => h Q fr w m ρ φ hc _ (fun fr' w' st' m' ρ' φ' h1 h2 => ⟨st', m', ρ', φ', h1, h2⟩)

/-- A variable's block. -/
theorem aop_box {av : AV} {cs : List AV} {K : AS → Prop} (hx : aev st.l x = some av) (hcs : cellsA av = some cs) (k : K (st.new d (.ptr st.n 0) (.var T cs))) (hN : Nat.blt d N.n = true := by rfl) : AOp P N X ⟨some d, .box T x, U, pos, aft, g⟩ K st :=
  aop_of fun Q fr w m ρ φ hc K' hK => by
    obtain ⟨v, h1, h2⟩ := hc.ev hx
    obtain ⟨h3, h4⟩ := rep_cells hcs h2
    refine op_box h1 hN fun w' b hn => ?_
    refine hK _ _ _ _ _ _ (hc.newObj (h := .pointer (some ⟨b, 0, none⟩)) (f := [(b, .cells v.cells T)]) (Mem.le_refl _) (hc.sh.alloc hn rfl) ?_ ?_) k
    · exact ⟨b, v.cells.toList, rfl, by simp, RepL.mono (Mem.le_refl _) pre_app cs h3, h4⟩
    · simp only [RepA]
      exact ⟨b, by rw [← hc.nρ]; simp, rfl⟩
theorem aop_alloc {v : Value} {cs : List AV} {K : AS → Prop} (hZ : Zero P T v) (hcs : cellsA (ofV v) = some cs) (k : K (st.new d (.ptr st.n 0) (.var T cs))) (hN : Nat.blt d N.n = true := by rfl) : AOp P N X ⟨some d, .alloc T, U, pos, aft, g⟩ K st :=
  aop_of fun Q fr w m ρ φ hc K' hK => by
    obtain ⟨h3, h4⟩ := rep_cells hcs (rep_ofV m ρ v)
    refine op_alloc hZ hN fun w' b hn => ?_
    refine hK _ _ _ _ _ _ (hc.newObj (h := .pointer (some ⟨b, 0, none⟩)) (f := [(b, .cells v.cells T)]) (Mem.le_refl _) (hc.sh.alloc hn rfl) ?_ ?_) k
    · exact ⟨b, v.cells.toList, rfl, by simp, RepL.mono (Mem.le_refl _) pre_app cs h3, h4⟩
    · simp only [RepA]
      exact ⟨b, by rw [← hc.nρ]; simp, rfl⟩

/-- A store into a variable. -/
theorem aop_store {i o n : Nat} {cs ds cs' : List AV} {av : AV} {K : AS → Prop} (hT : Sz P T n) (hx : aev st.l x = some (.ptr i o)) (hy : aev st.l y = some av) (hH : st.H.get i = .var T' cs) (hd : cellsA av = some ds) (hn : Nat.beq ds.length n = true) (hle : Nat.ble (o + n) cs.length = true) (hcs : over cs o ds = cs') (k : K (st.upd i (.var T' cs'))) :
    AOp P N X ⟨none, .store T x y, U, pos, aft, g⟩ K st :=
  aop_of fun Q fr w m ρ φ hc K' hK => by
    obtain ⟨p, h1, h2⟩ := hc.ev hx
    obtain ⟨v, h3, h4⟩ := hc.ev hy
    obtain ⟨h5, h6⟩ := rep_cells hd h4
    simp only [RepA] at h2
    obtain ⟨b, h7, rfl⟩ := h2
    obtain ⟨f, hf, ho, hw⟩ := hc.obj h7
    rw [hH] at ho
    obtain ⟨b', us, h8, rfl, h9, h10⟩ := ho
    cases h8
    have hn' := Nat.eq_of_beq_eq_true hn
    have hvl : v.cells.size = n := by rw [← hn']; simpa using h5.len
    have hle' := Nat.le_of_ble_eq_true hle
    have hb := hw (b, _) (List.mem_singleton.2 rfl)
    have hul := h9.len
    refine op_store h1 h3 (by rw [hvl]; exact hT) hb (by simpa only [List.all_eq_true] using h6) ?_ fun w' hP hb' => ?_
    · rw [Nat.ble_eq]; simp only [List.size_toArray]; rw [hvl]; omega
    · have hsp : splice us.toArray o v.cells.toList = (over us o v.cells.toList).toArray := by
        have := splice_over v.cells.toList us.toArray o
        apply Array.toList_inj.1
        rw [this]
      rw [hsp] at hb'
      subst hcs
      have hfr := hc.front hf
      refine hK _ _ _ _ _ _ (hc.turn h7 hf (f' := [(b, .cells (over us o v.cells.toList).toArray T' (0, 0))]) (hfr.put hP hb' rfl) ?_) k
      exact ⟨b, _, rfl, rfl, h9.over h5, over_one h10 h6⟩

theorem RowsC.len {m : Mem} {t : Ty} {x : List t.den} {vs : List Value} (h : RowsC m t x vs) : vs.length = x.length * t.cells := by
  obtain ⟨us, h1, rfl, h3⟩ := h
  refine flatten_len h1 fun u hu => ?_
  obtain ⟨i, hi, rfl⟩ := List.getElem_of_mem hu
  exact RC.len (h3 i (x[i]'(by omega)) _ (List.getElem?_eq_getElem (by omega)) (List.getElem?_eq_getElem hi))
theorem RowsC.app {m : Mem} {t : Ty} {x y : List t.den} {us vs : List Value} (h : RowsC m t x us) (k : RowsC m t y vs) : RowsC m t (x ++ y) (us ++ vs) := by
  obtain ⟨u1, h1, rfl, h3⟩ := h
  obtain ⟨u2, k1, rfl, k3⟩ := k
  refine ⟨u1 ++ u2, by simp [h1, k1], by simp, fun i e u he hu => ?_⟩
  rcases Nat.lt_or_ge i x.length with hi | hi
  · rw [List.getElem?_append_left hi] at he
    rw [List.getElem?_append_left (by omega)] at hu
    exact h3 i e u he hu
  · rw [List.getElem?_append_right hi] at he
    rw [List.getElem?_append_right (by omega), h1] at hu
    exact k3 _ e u he hu
theorem over_at {α : Type} : ∀ {us : List (List α)} {z c : Nat} {u ds : List α} {o : Nat}, (∀ v ∈ us, v.length = c) → us[z]? = some u → o + ds.length ≤ c → (us.set z (over u o ds)).flatten = over us.flatten (z * c + o) ds := by
  intro us z c u ds o hall hz hle
  have hu := hall u (List.mem_of_getElem? hz)
  apply List.ext_getElem?
  intro i
  have hfl : us.flatten.length = us.length * c := by
    clear hz hle hu
    induction us with
    | nil => simp
    | cons v us ih => rw [List.flatten_cons, List.length_append, hall v (by simp), ih (fun w hw => hall w (by simp [hw])), List.length_cons, Nat.add_mul]; omega
  have hzl := (List.getElem?_eq_some_iff.1 hz).1
  have hbd : z * c + c ≤ us.length * c := by
    have := Nat.mul_le_mul_right c (show z + 1 ≤ us.length by omega)
    rw [Nat.add_mul] at this; omega
  rw [over_get ds us.flatten _ i (by rw [hfl]; omega)]
  clear hfl hbd hzl
  induction us generalizing z i with
  | nil => simp at hz
  | cons v us ih =>
    have hv := hall v (by simp)
    cases z with
    | zero =>
      simp at hz; subst hz
      simp only [List.set_cons_zero, List.flatten_cons, Nat.zero_mul, Nat.zero_add]
      rcases Nat.lt_or_ge i c with hi | hi
      · rw [List.getElem?_append_left (by rw [over_len]; omega), over_get _ _ _ _ (by omega), List.getElem?_append_left (by omega)]
      · rw [List.getElem?_append_right (by rw [over_len]; omega), over_len, if_neg (by omega), List.getElem?_append_right (by omega)]
    | succ z =>
      simp only [List.set_cons_succ, List.flatten_cons]
      rcases Nat.lt_or_ge i c with hi | hi
      · rw [List.getElem?_append_left (by omega), if_neg (by rw [Nat.add_mul]; omega), List.getElem?_append_left (by omega)]
      · rw [List.getElem?_append_right (by omega), ih (fun w hw => hall w (by simp [hw])) (by simpa using hz), List.getElem?_append_right (by omega), hv]
        by_cases h1 : z * c + o ≤ i - c ∧ i - c < z * c + o + ds.length
        · rw [if_pos h1, if_pos (by rw [Nat.add_mul]; omega)]
          congr 1
          rw [Nat.add_mul]; omega
        · rw [if_neg h1, if_neg (by rw [Nat.add_mul]; omega)]

/-- A store into an element. -/
theorem aop_store_ep {i sz z o n : Nat} {E : TypeId} {t : Ty} {xs : List t.den} {e e' : t.den} {ds : List AV} {av : AV} {K : AS → Prop} (hT : Sz P T n) (hx : aev st.l x = some (.ep i sz z o)) (hy : aev st.l y = some av) (hH : st.H.get i = .sl E t xs) (hsz : sz = t.cells) (he : xs[z]? = some e) (hd : cellsA av = some ds) (hn : Nat.beq ds.length n = true)
    (hle : Nat.ble (o + n) t.cells = true) (hno : t.noArr = true) (hcs : over (expl t e) o ds = expl t e') (k : K (st.upd i (.sl E t (xs.set z e')))) :
    AOp P N X ⟨none, .store T x y, U, pos, aft, g⟩ K st :=
  aop_of fun Q fr w m ρ φ hc K' hK => by
    subst hsz
    obtain ⟨p, h1, h2⟩ := hc.ev hx
    obtain ⟨v, h3, h4⟩ := hc.ev hy
    obtain ⟨h5, h6⟩ := rep_cells hd h4
    simp only [RepA] at h2
    obtain ⟨b, n', c', h7, rfl⟩ := h2
    obtain ⟨f, hf, ho, hw⟩ := hc.obj h7
    rw [hH] at ho
    obtain ⟨h0, ⟨_, h8, _⟩ | ⟨b', c, cs, vs, h8, rfl, h9, h10, h11, h12, h13⟩⟩ := ho
    · cases h8
    cases h8
    have hn' := Nat.eq_of_beq_eq_true hn
    have hvl : v.cells.size = n := by rw [← hn']; simpa using h5.len
    have hle' := Nat.le_of_ble_eq_true hle
    have hb := hw (b, _) (List.mem_singleton.2 rfl)
    have hzl := (List.getElem?_eq_some_iff.1 he).1
    have hbd : z * t.cells + t.cells ≤ c' * t.cells := by
      have := Nat.mul_le_mul_right t.cells (show z + 1 ≤ c' by omega)
      rw [Nat.add_mul] at this; omega
    have hbd2 : z * t.cells + t.cells ≤ xs.length * t.cells := by
      have := Nat.mul_le_mul_right t.cells (show z + 1 ≤ xs.length by omega)
      rw [Nat.add_mul] at this; omega
    refine op_store h1 h3 (by rw [hvl]; exact hT) hb (by simpa only [List.all_eq_true] using h6) ?_ fun w' hP hb' => ?_
    · rw [Nat.ble_eq, hvl, h11]; omega
    · have hfr := hc.front hf
      have hvl' : v.cells.toList.length = n := by simpa using hvl
      refine hK _ _ _ _ _ _ (hc.turn h7 hf (f' := [(b, .cells (splice cs (z * t.cells + o) v.cells.toList) E (0, 0))]) (hfr.put hP hb' rfl) ?_) k
      have hrc := h12.len
      obtain ⟨us, g1, rfl, g3⟩ := h12
      have hall : ∀ u ∈ us, u.length = t.cells := by
        intro u hu
        obtain ⟨i, hi, rfl⟩ := List.getElem_of_mem hu
        exact RC.len (g3 i (xs[i]'(by omega)) _ (List.getElem?_eq_getElem (by omega)) (List.getElem?_eq_getElem hi))
      obtain ⟨u, hu⟩ : ∃ u, us[z]? = some u := ⟨_, List.getElem?_eq_getElem (by omega)⟩
      have hue := g3 z e u he hu
      have hnew : RC m t e' (over u o v.cells.toList) := by
        refine rc_of_expl (ρ := ρ) hno ?_
        rw [← hcs]
        exact (rc_expl hue).over h5
      refine ⟨by simpa using h0, .inr ⟨b, c', _, _, by simp, rfl, by simpa using h9, h10, ?_, ⟨us.set z (over u o v.cells.toList), by simpa using g1, rfl, ?_⟩, ?_⟩⟩
      · rw [splice_size]; exact h11
      · intro j q r hq hr
        by_cases hj : z = j
        · subst hj
          rw [List.getElem?_set_self (by omega)] at hq hr
          cases hq; cases hr; exact hnew
        · rw [List.getElem?_set_ne hj] at hq hr
          exact g3 j q r hq hr
      · rw [splice_over, over_at hall hu (by omega), ← h13]
        simp only [List.length_set]
        apply List.ext_getElem?
        intro j
        have hcl : cs.toList.length = c' * t.cells := by simpa using h11
        rw [List.getElem?_take, over_get _ _ _ _ (by omega), over_get _ _ _ _ (by rw [List.length_take]; omega), List.getElem?_take]
        by_cases h1 : z * t.cells + o ≤ j ∧ j < z * t.cells + o + v.cells.toList.length
        · rw [if_pos h1, if_pos h1, if_pos (by omega)]
        · rw [if_neg h1, if_neg h1]
end
end Go.Ab
