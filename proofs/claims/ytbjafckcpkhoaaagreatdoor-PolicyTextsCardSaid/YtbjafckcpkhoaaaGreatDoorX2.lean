/- Lemmas for a law of the seat: what functions of the program do, each stated as a contract of its own (X2). -/
import Derived.Test.YtbjafckcpkhoaaaGreatDoorX1
import Derived.Sort.Grow
import Derived.Sort.Row
import Derived.Scope
import Derived.SizedLaws
import Derived.Deep.Slices
import Derived.Deep.Fields
import Derived.Carry
import Derived.OpenShut
import Derived.Maps.RangeRun
import Derived.Lib.ItoaNum
import Derived.Shelf.Strings.Builder1
import Derived.Lib.AppendStr
import Derived.Lib.UnsafeStr
import Derived.Lib.IndexMore
import Derived.Lib.Split
import Derived.Lib.Join
import Derived.Lib.AtoiAll
set_option linter.unusedVariables false
set_option linter.unusedSimpArgs false
namespace Go.Ab
open Go.RowKit Go.Shelf Go.Proofs Go.Eng

theorem flatten_at {α : Type} : ∀ {us : List (List α)} {c j : Nat} {v : α}, (∀ u ∈ us, u.length = c) → us.flatten[j]? = some v → ∃ z r u, j = z * c + r ∧ us[z]? = some u ∧ u[r]? = some v := by
  intro us
  induction us with
  | nil => intro c j v _ h; simp at h
  | cons w us ih =>
    intro c j v hall h
    have hw := hall w (by simp)
    rw [List.flatten_cons] at h
    rcases Nat.lt_or_ge j w.length with hj | hj
    · rw [List.getElem?_append_left hj] at h
      exact ⟨0, j, w, by omega, rfl, h⟩
    · rw [List.getElem?_append_right hj] at h
      obtain ⟨z, r, u, h1, h2, h3⟩ := ih (fun u hu => hall u (by simp [hu])) h
      exact ⟨z + 1, r, u, by rw [Nat.add_mul]; omega, by simpa using h2, h3⟩

theorem choose_rows {m : Mem} {t : Ty} {xs : List t.den} {b o : Nat} (h : ∀ (i : Nat) (y : t.den), xs[i]? = some y → ∃ us, RC m t y us ∧ CellsM m b (o + i * t.cells) us) : ∃ vs, RowsC m t xs vs ∧ CellsM m b o vs := by
  have h' : ∀ i, ∃ u, ∀ y, xs[i]? = some y → RC m t y u ∧ CellsM m b (o + i * t.cells) u := by
    intro i
    cases hi : xs[i]? with
    | none => exact ⟨[], fun y hy => by cases hy⟩
    | some y => obtain ⟨u, h1, h2⟩ := h i y hi; exact ⟨u, fun y' hy => by cases hy; exact ⟨h1, h2⟩⟩
  obtain ⟨U, hU⟩ := Classical.axiomOfChoice h'
  have hat : ∀ (i : Nat) (u : List Value), ((List.range xs.length).map U)[i]? = some u → i < xs.length ∧ u = U i := by
    intro i u hu
    have hl := (List.getElem?_eq_some_iff.1 hu).1
    simp at hl
    rw [List.getElem?_map, List.getElem?_range hl] at hu
    exact ⟨hl, (Option.some.inj hu).symm⟩
  refine ⟨((List.range xs.length).map U).flatten, ⟨_, by simp, rfl, fun i y u hy hu => ?_⟩, ?_⟩
  · obtain ⟨_, rfl⟩ := hat i u hu
    exact (hU i y hy).1
  · intro j v hj
    obtain ⟨z, r, u, rfl, h2, h3⟩ := flatten_at (c := t.cells) (fun u hu => by
      obtain ⟨i, hi, rfl⟩ := List.getElem_of_mem hu
      obtain ⟨hl, e⟩ := hat i _ (List.getElem?_eq_getElem hi)
      rw [e]
      exact (hU i _ (List.getElem?_eq_getElem hl)).1.len) hj
    obtain ⟨hl, rfl⟩ := hat z u h2
    have := (hU z _ (List.getElem?_eq_getElem hl)).2 r v h3
    rw [Nat.add_assoc] at this; exact this

/-- A slice that is read: nothing in it, or where its rows stand. -/
theorem rc_slice {m : Mem} {t : Ty} {xs : List t.den} {v : Value} (h : RC m (.slice t) xs [v]) : ∃ A c, v = .slice A xs.length c ∧ xs.length ≤ c ∧ xs.length ≤ cap47 ∧ ((xs = []) ∨ ∃ b o vs, A = some ⟨b, o, none⟩ ∧ RowsC m t xs vs ∧ CellsM m b o vs) := by
  simp only [RC] at h
  obtain ⟨A, n, c, h1, h2, h3, h4, b, o, h5, h6⟩ := h
  cases h1
  subst h2
  refine ⟨A, c, rfl, h3, h4, ?_⟩
  cases hx : xs with
  | nil => exact .inl rfl
  | cons y ys =>
    rw [← hx]
    obtain ⟨vs, h7, h8⟩ := choose_rows h6
    exact .inr ⟨b, o, vs, h5 (by rw [hx]; simp), h7, h8⟩
theorem rows_slice {m : Mem} {t : Ty} {xs : List t.den} {b c : Nat} {cs : Array Value} {T : TypeId} {fr : Nat × Nat} {vs : List Value} (hb : m b = some (.cells cs T fr)) (h : RowsC m t xs vs) (ht : cs.toList.take (xs.length * t.cells) = vs) (hc : xs.length ≤ c) (hn : xs.length ≤ cap47) : RC m (.slice t) xs [.slice (some ⟨b, 0, none⟩) xs.length c] := by
  simp only [RC]
  refine ⟨_, _, c, rfl, rfl, hc, hn, b, 0, fun _ => rfl, fun i y hy => ?_⟩
  obtain ⟨u, h1, h2⟩ := h.at hy
  refine ⟨u, h1, fun j v hj => ⟨cs, T, fr, hb, ?_⟩⟩
  have := h2 j v hj
  rw [← ht, List.getElem?_take] at this
  split at this
  · simpa using this
  · cases this

/-- What the machine bears of a slice. -/
def apOk (bytes n : Nat) : Bool := Nat.ble (n * bytes) cap47

section
variable {P : Program} {N : Ev} {X : Cx} {Q : APost} {st : AS}
variable {d : Nat} {T U T' : TypeId} {pos : String} {aft : Array Edge} {g : Option (Nat × Bool)} {x y : Operand} {k ky : IntKind} {a b : Int}

/-- Rows of the call's own behind an append. -/
theorem SH.grown {e w w' : World} {m : Mem} {f r : Frag} {E sz n : Nat} {v v' : Value} {vs : List Value} (h : SH e w m (f ++ r)) (hf : (v.ownBlock = none ∧ f = []) ∨ ∃ b o, v.ownBlock = some b ∧ f = [(b, o)]) (hg : w.grownBy w' v.ownBlock) (ho : w'.ownsRow 0 E sz v' n vs) (hb : v'.ownBlock = v.ownBlock ∨ v'.ownBlock = some w.heap.size) :
    ∃ f', SH e w' m (f' ++ r) ∧ ((v' = .slice none 0 0 ∧ n = 0 ∧ f' = []) ∨ ∃ g cap cur, v' = .slice (some ⟨g, 0, none⟩) n cap ∧ f' = [(g, .cells cur E (0, 0))] ∧ n ≤ cap ∧ cap ≤ maxLen ∧ cur.size = cap * sz ∧ cur.toList.take (n * sz) = vs) := by
  have hlt : ∀ x o', w.heap[x]? = some o' → x < w.heap.size := fun x o' hx => (Array.getElem?_eq_some_iff.1 hx).1
  have hkeep : ∀ x o', w.heap[x]? = some o' → some x ≠ v.ownBlock → w'.heap[x]? = some o' := fun x o' hx hn => (hg.block x (hlt _ _ hx) hn).trans hx
  have hmne : ∀ x o', m x = some o' → some x ≠ v.ownBlock := by
    intro x o' hx he
    rcases hf with ⟨h1, _⟩ | ⟨b, o, h1, rfl⟩
    · rw [h1] at he; cases he
    · rw [h1] at he; cases he
      have := h.dis (x, o) (by simp)
      simp only at this
      rw [hx] at this; cases this
  have hnd := h.nd
  rw [List.map_append, List.nodup_append] at hnd
  have hrne : ∀ p ∈ r, some p.1 ≠ v.ownBlock := by
    intro p hp he
    rcases hf with ⟨h1, _⟩ | ⟨b, o, h1, rfl⟩
    · rw [h1] at he; cases he
    · rw [h1] at he; cases he
      exact hnd.2.2 p.1 (by simp) p.1 (List.mem_map.2 ⟨p, hp, rfl⟩) rfl
  have hbase : SH e w' m r := ⟨hg.os.trans h.os, hg.tape.trans h.tape, hg.output.trans h.output, fun x o' hx => hkeep x o' (h.fz _ _ hx) (hmne x o' hx), fun p hp => hkeep _ _ (h.own p (by simp [hp])) (hrne p hp), hnd.2.1, fun p hp => h.dis p (by simp [hp]), fun p hp => h.noctl p (by simp [hp]), h.mctl, Nat.le_trans h.esz hg.size⟩
  rcases ho.2 with ⟨rfl, rfl⟩ | ⟨q, cap, cur, rfl, _, h2, h3, h4, h5, h6⟩
  · exact ⟨[], by simpa using hbase, .inl ⟨rfl, rfl, rfl⟩⟩
  · refine ⟨[(q, .cells cur E (0, 0))], ?_, .inr ⟨q, cap, cur, rfl, rfl, h3, h4, h5, h6⟩⟩
    have hq : (∃ o, f = [(q, o)]) ∨ q = w.heap.size := by
      rcases hb with hb | hb
      · left
        rcases hf with ⟨h1, _⟩ | ⟨b, o, h1, rfl⟩
        · rw [h1] at hb; cases hb
        · rw [h1] at hb; cases hb; exact ⟨o, rfl⟩
      · right; cases hb; rfl
    have hqr : q ∉ r.map (·.1) := by
      intro hm
      rcases hq with ⟨o, rfl⟩ | rfl
      · exact hnd.2.2 q (by simp) q hm rfl
      · obtain ⟨p, hp, he⟩ := List.mem_map.1 hm
        have := hlt _ _ (h.own p (by simp [hp]))
        omega
    have hqm : m q = none := by
      cases hx : m q with
      | none => rfl
      | some o' =>
        rcases hq with ⟨o, rfl⟩ | rfl
        · have := h.dis (q, o) (by simp)
          simp only at this; rw [this] at hx; cases hx
        · have := hlt _ _ (h.fz _ _ hx); omega
    refine ⟨hbase.os, hbase.tape, hbase.output, hbase.fz, ?_, ?_, ?_, ?_, hbase.mctl, hbase.esz⟩
    · intro p hp
      rcases List.mem_append.1 hp with hp | hp
      · rw [List.mem_singleton.1 hp]; exact h2
      · exact hbase.own p hp
    · simp only [List.singleton_append, List.map_cons, List.nodup_cons]; exact ⟨hqr, hbase.nd⟩
    · intro p hp
      rcases List.mem_append.1 hp with hp | hp
      · rw [List.mem_singleton.1 hp]; exact hqm
      · exact hbase.dis p hp
    · intro p hp
      rcases List.mem_append.1 hp with hp | hp
      · rw [List.mem_singleton.1 hp]; intro h; cases h
      · exact hbase.noctl p hp

theorem owns_of {m : Mem} {ρ : List Value} {E : TypeId} {t : Ty} {xs : List t.den} {h : Value} {f : Frag} {w : World} (ho : ORep m ρ (.sl E t xs) h f) (hw : ∀ p ∈ f, w.heap[p.1]? = some p.2) :
    ∃ vs, w.ownsRow 0 E t.cells h xs.length vs ∧ RowsC m t xs vs ∧ ((h.ownBlock = none ∧ f = []) ∨ ∃ b o, h.ownBlock = some b ∧ f = [(b, o)]) := by
  obtain ⟨_, ⟨rfl, rfl, rfl⟩ | ⟨b, c, cs, vs, rfl, rfl, h3, h4, h5, h6, h7⟩⟩ := ho
  · exact ⟨[], World.ownsRow_nil w 0 E t.cells, ⟨[], rfl, rfl, fun i y u hy => by simp at hy⟩, .inl ⟨rfl, rfl⟩⟩
  · exact ⟨vs, ⟨h6.len, .inr ⟨b, c, cs, rfl, Nat.zero_le _, hw (b, _) (List.mem_singleton.2 rfl), h3, h4, h5, h7⟩⟩, h6, .inr ⟨b, _, rfl, rfl⟩⟩

theorem RowsC.one {m : Mem} {t : Ty} {xs : List t.den} {vs : List Value} (h : RowsC m t xs vs) : ∀ v ∈ vs, v.oneCell' = true := by
  obtain ⟨us, h1, rfl, h3⟩ := h
  intro v hv
  obtain ⟨u, hu, hvu⟩ := List.mem_flatten.1 hv
  obtain ⟨i, hi, rfl⟩ := List.getElem_of_mem hu
  exact RC.one (h3 i (xs[i]'(by omega)) _ (List.getElem?_eq_getElem (by omega)) (List.getElem?_eq_getElem hi)) v hvu
theorem RowsC.nil {m : Mem} {t : Ty} : RowsC m t [] [] := ⟨[], rfl, rfl, fun i y u hy => by simp at hy⟩

theorem SH.tail {e w : World} {m : Mem} {f r : Frag} (h : SH e w m (f ++ r)) : SH e w m r := by
  have hnd := h.nd
  rw [List.map_append, List.nodup_append] at hnd
  exact ⟨h.os, h.tape, h.output, h.fz, fun p hp => h.own p (by simp [hp]), hnd.2.1, fun p hp => h.dis p (by simp [hp]), fun p hp => h.noctl p (by simp [hp]), h.mctl, h.esz⟩

def AS.app (st : AS) (d i : Nat) (o : AO) : AS := ⟨(d, .osl st.n) :: st.l, (st.n, o) :: (i, .dead) :: st.H, st.n + 1⟩

/-- One object goes, one comes. -/
theorem Conc.swap {fr : Fr} {w w' : World} {m m' : Mem} {ρ : List Value} {φ : List Frag} (hc : Conc X st fr w m ρ φ) {i : Nat} {d : Nat} {av : AV} {v h0 h : Value} {f f' : Frag} {o : AO} (hi : ρ[i]? = some h0) (hf : φ[i]? = some f) (hm : m.le m') (hs : SH X.e w' m' (f' ++ ((φ.eraseIdx i).flatten ++ X.F))) (ho : ORep m' (ρ ++ [h]) o h f') (ha : RepA m' (ρ ++ [h]) av v) :
    Conc X ⟨(d, av) :: st.l, (st.n, o) :: (i, .dead) :: st.H, st.n + 1⟩ ((d, v) :: fr) w' m' (ρ ++ [h]) (φ.set i [] ++ [f']) := by
  have h2 : SH X.e w' m' ((φ.set i []).flatten ++ X.F) := hs.tail.perm (((frag_split hf []).2.append_right _).symm)
  have h1 : Conc X (st.upd i .dead) fr w' m' ρ (φ.set i []) := by
    refine ⟨hc.mle.trans hm, hc.pre, hc.nρ, by rw [List.length_set]; exact hc.nφ, fun t a ha => let ⟨v, h3, h4⟩ := hc.slots t a ha; ⟨v, h3, RepA.mono hm (fun _ _ h => h) a h4⟩, ?_, h2⟩
    intro j hd g hj hg
    simp only [AS.upd, AH.get_cons]
    by_cases e : i = j
    · subst e
      rw [if_pos rfl]
      rw [List.getElem?_set_self (List.getElem?_eq_some_iff.1 hf).1] at hg
      cases hg; rfl
    · rw [if_neg e]
      rw [List.getElem?_set_ne e] at hg
      exact (hc.objs j hd g hj hg).mono hm (fun _ _ h => h)
  refine h1.newObj (Mem.le_refl _) (hs.perm ?_) ho ha
  refine List.Perm.append_left _ ?_
  exact ((frag_split hf []).2.append_right _).symm

/-- What is appended, as the machine's lemma wants it. -/
theorem run_append {w : World} {m : Mem} {f : Frag} {E bytes n : Nat} {t : Ty} {ys : List t.den} {v u : Value} {vs : List Value} {e : World} {ty : TypeId} (hT : AppT P T E t.cells bytes) (hs : SH e w m f) (hown : w.ownsRow 0 E t.cells v n vs) (hy : RC m (.slice t) ys [u]) (hb : apOk bytes (n + ys.length) = true) (hn : n + ys.length ≤ cap47) :
    ∃ v' w' us, (Builtin.append_ #[T, T] ty #[v, u]).run P w = .ok v' w' ∧ RowsC m t ys us ∧ w'.ownsRow 0 E t.cells v' (n + ys.length) (vs ++ us) ∧ w.grownBy w' v.ownBlock ∧ (v'.ownBlock = v.ownBlock ∨ v'.ownBlock = some w.heap.size) := by
  obtain ⟨hU, hsz, i, z, hi, hz, hsize, hby, hzs⟩ := hT
  obtain ⟨A, c, rfl, h1, h2, h3⟩ := rc_slice hy
  have hb' := Nat.le_of_ble_eq_true hb
  rcases h3 with rfl | ⟨b, o, us, rfl, h4, h5⟩
  · -- nothing is appended
    refine ⟨v, w, [], ?_, RowsC.nil, by simpa using hown, ⟨rfl, rfl, rfl, Nat.le_refl _, fun _ _ _ => rfl⟩, .inl rfl⟩
    rcases hown.2 with ⟨rfl, rfl⟩ | ⟨q, cap, cur, rfl, _, g2, g3, _⟩
    · cases A with
      | none => simp [Builtin.append_, run_underlying hU, sizeOf, typeInfo, hi, Builtin.lenOf, Builtin.firstCells, loadCells, loadCellsFrom]
      | some A => simp [Builtin.append_, run_underlying hU, sizeOf, typeInfo, hi, Builtin.lenOf, Builtin.firstCells, loadCells, loadCellsFrom]
    · cases A with
      | none => simp [Builtin.append_, run_underlying hU, sizeOf, typeInfo, hi, Builtin.lenOf, Builtin.firstCells, loadCells, loadCellsFrom, g3, storeCells]
      | some A => simp [Builtin.append_, run_underlying hU, sizeOf, typeInfo, hi, Builtin.lenOf, Builtin.firstCells, loadCells, loadCellsFrom, g3, storeCells]
  · have hcells := h5.cells hs
    have hmax : n + ys.length ≤ maxLen := by
      have : cap47 = 140737488355328 := rfl
      simp only [maxLen]; omega
    obtain ⟨v', w', hr, g2, g3, g4, g5⟩ := run_append_own_at (P := P) (w := w) 0 T ty E i z t.cells bytes hU hi hz hsize hby hzs hsz v n vs hown ⟨b, o, none⟩ ys.length c us h4.len (fun j u hj => by rw [add_lit]; exact hcells j u hj) h4.one hmax hb' (Nat.zero_le _)
    exact ⟨v', w', us, hr, h4, g2, g3, g5⟩

theorem aop_append {s : Operand} {i E bytes : Nat} {t : Ty} {xs ys : List t.den} {cl : Array Operand} {ts : Array TypeId} {K : AS → Prop} (hcl : cl = #[s, x]) (hts : ts = #[T, T]) (hT : AppT P T E t.cells bytes) (hs : aev st.l s = some (.osl i)) (hx : aev st.l x = some (.sl t ys)) (hH : st.H.get i = .sl E t xs) (hb : apOk bytes (xs.length + ys.length) = true) (hB : Nat.ble 1 bytes = true)
    (k : K (st.app d i (.sl E t (xs ++ ys)))) (hN : Nat.blt d N.n = true := by rfl) :
    AOp P N X ⟨some d, .call ⟨.builtin .append, cl, ts⟩, U, pos, aft, g⟩ K st :=
  aop_of fun Q fr w m ρ φ hc K' hK => by
    subst hcl hts
    obtain ⟨v, h1, h2⟩ := hc.ev hs
    obtain ⟨u, h3, h4⟩ := hc.ev hx
    simp only [RepA] at h2 h4
    obtain ⟨f, hf, ho, hw⟩ := hc.obj h2.1
    rw [hH] at ho
    obtain ⟨vs, hown, hrow, hfs⟩ := owns_of ho hw
    have hlen : xs.length + ys.length ≤ cap47 := by
      have h5 := Nat.le_of_ble_eq_true hb
      have h6 := Nat.le_of_ble_eq_true hB
      exact Nat.le_trans (Nat.le_mul_of_pos_right _ h6) h5
    obtain ⟨v', w', us, hr, g1, g2, g3, g4⟩ := run_append (ty := U) hT hc.sh hown h4 hb hlen
    have hfr := hc.front hf
    obtain ⟨f', g5, g6⟩ := hfr.grown hfs g3 g2 g4
    have hone : v'.oneCell' = true := by
      rcases g6 with ⟨rfl, _⟩ | ⟨_, _, _, rfl, _⟩ <;> rfl
    refine op_val (v := v') (w' := w') rfl hN (fun a ha => ?_) ?_ (dk_grown hown g3)
    · simp [execOp, resolve, invoke, builtin, ha.eval h1, ha.eval h3, hr]
    · refine hK _ _ _ _ _ _ (hc.swap (h := v') (d := d) (av := .osl st.n) (v := v') h2.1 hf (Mem.le_refl _) g5 ?_ ?_) k
      · have hl : (xs ++ ys).length = xs.length + ys.length := by simp
        refine ⟨by rw [hl]; exact hlen, ?_⟩
        rcases g6 with ⟨rfl, h7, rfl⟩ | ⟨q, cap, cur, rfl, rfl, h8, h9, h10, h11⟩
        · left
          have hx0 : xs = [] := List.eq_nil_of_length_eq_zero (by omega)
          have hy0 : ys = [] := List.eq_nil_of_length_eq_zero (by omega)
          subst hx0 hy0
          exact ⟨rfl, rfl, rfl⟩
        · right
          exact ⟨q, cap, cur, vs ++ us, by rw [hl], rfl, by rw [hl]; exact h8, h9, h10, hrow.app g1, by rw [hl]; exact h11⟩
      · simp only [RepA]
        exact ⟨by rw [← hc.nρ]; simp, hone⟩
/-! make -/
def zeroV : Ty → List Value
  | .int k => [.int k 0]
  | .bool => [.bool false]
  | .str => [.string (bstr [])]
  | .unit => []
  | .pair a b => zeroV a ++ zeroV b
  | .st a => zeroV a
  | .slice _ => [.slice none 0 0]
  | .arr n e => (List.replicate n (zeroV e)).flatten
  | .raw z => [z.1]
  | .map _ _ => [.map none]
theorem rc_zero (m : Mem) : ∀ (t : Ty), RC m t t.dflt (zeroV t) := by
  intro t
  induction t with
  | int k => rfl
  | bool => rfl
  | str => rfl
  | unit => rfl
  | pair a b iha ihb => exact ⟨_, _, rfl, iha, ihb⟩
  | st a ih => exact ih
  | slice e ih => exact ⟨none, 0, 0, rfl, rfl, Nat.le_refl _, Nat.zero_le _, 0, 0, fun h => absurd h (by omega), fun i y hy => by simp [Ty.dflt] at hy⟩
  | arr n e ih =>
    refine ⟨by simp [Ty.dflt], _, by simp, rfl, fun i y u hy hu => ?_⟩
    have h1 := List.mem_of_getElem? hy
    have h2 := List.mem_of_getElem? hu
    simp only [Ty.dflt] at h1
    rw [List.eq_of_mem_replicate h1, List.eq_of_mem_replicate h2]
    exact ih
  | raw z => rfl
  | map k v ihk ihv => exact .inl ⟨rfl, rfl⟩
theorem made_rows {z : Array Value} {zs : List Value} (hz : z.toList = zs) (n : Nat) : (madeCells z (n * z.size)).toList = (List.replicate n zs).flatten := by
  subst hz
  apply List.ext_getElem?
  intro j
  rcases Nat.lt_or_ge j (n * z.size) with hj | hj
  · have hpos : 0 < z.size := Nat.pos_of_ne_zero (fun h => by rw [h] at hj; omega)
    have hl : (List.replicate n z.toList).flatten.length = n * z.size := by rw [flatten_len (k := z.size) (by simp : (List.replicate n z.toList).length = n)]; intro u hu; rw [List.eq_of_mem_replicate hu]; simp
    obtain ⟨v, hv⟩ : ∃ v, (List.replicate n z.toList).flatten[j]? = some v := ⟨_, List.getElem?_eq_getElem (by rw [hl]; exact hj)⟩
    rw [hv]
    obtain ⟨q, r, u, h1, h2, h3⟩ := flatten_at (c := z.size) (fun u hu => by rw [List.eq_of_mem_replicate hu]; simp) hv
    have hu := List.eq_of_mem_replicate (List.mem_of_getElem? h2)
    subst hu
    have hr := (List.getElem?_eq_some_iff.1 h3).1
    simp at hr
    have hmod : j % z.size = r := by rw [h1, Nat.add_comm, Nat.add_mul_mod_self_right, Nat.mod_eq_of_lt hr]
    simp only [madeCells, Array.toList_map, Array.toList_range, List.getElem?_map, List.getElem?_range hj, Option.map_some, hmod]
    have h4 : z[r]? = some v := by simpa using h3
    rw [getElem!_def, h4]
  · rw [List.getElem?_eq_none, List.getElem?_eq_none]
    · rw [flatten_len (k := z.size) (by simp : (List.replicate n z.toList).length = n)]
      · exact hj
      · intro u hu; rw [List.eq_of_mem_replicate hu]; simp
    · simp [madeCells]; exact hj
end
end Go.Ab


set_option linter.unusedVariables false
set_option linter.unusedSimpArgs false
namespace Go.Ab
open Go.RowKit Go.Shelf Go.Proofs Go.Eng

/-! filling in -/
theorem over_cons {α : Type} (d : α) : ∀ (ds cs : List α) (o : Nat), over cs o (d :: ds) = over (cs.set o d) (o + 1) ds := fun _ _ _ => rfl
theorem fold_over : ∀ (vs : List Value) (cs : Array Value) (off k : Nat), ((vs.zipIdx k).foldl (fun cs (p : Value × Nat) => cs.setIfInBounds (off + p.2) p.1) cs).toList = over cs.toList (off + k) vs := by
  intro vs
  induction vs with
  | nil => intro cs off k; rfl
  | cons v vs ih => intro cs off k; rw [List.zipIdx_cons, List.foldl_cons, ih, over_cons]; simp [Nat.add_assoc]
theorem zip_arr (a : Array Value) (f : Array Value → Value × Nat → Array Value) (z : Array Value) : a.zipIdx.foldl f z = (a.toList.zipIdx).foldl f z := by
  rw [← Array.foldl_toList, Array.toList_zipIdx]

/-- Parts laid one behind the other. -/
def layA (place : Nat → Option (Nat × Nat)) : List AV → List (Nat × List AV) → Option (List AV)
  | cs, [] => some cs
  | cs, (i, ds) :: r => match place i with
    | none => none
    | some (off, size) => bif Nat.beq ds.length size && Nat.ble (off + ds.length) cs.length then layA place (over cs off ds) r else none

theorem lay_fill {m : Mem} {ρ : List Value} {place : Nat → Option (Nat × Nat)} : ∀ {ps : List (Nat × List AV)} {vs : List (Nat × Value)} {cs cs' : List AV} {us : Array Value},
    layA place cs ps = some cs' → vs.map (·.1) = ps.map (·.1) → (∀ (i : Nat) (p : Nat × List AV) (v : Nat × Value), ps[i]? = some p → vs[i]? = some v → RepL m ρ p.2 v.2.cells.toList ∧ ∀ u ∈ v.2.cells.toList, u.oneCell' = true) → RepL m ρ cs us.toList → (∀ u ∈ us.toList, u.oneCell' = true) →
    ∃ us', Instr.fill place us vs = some us' ∧ RepL m ρ cs' us'.toList ∧ ∀ u ∈ us'.toList, u.oneCell' = true := by
  intro ps
  induction ps with
  | nil =>
    intro vs cs cs' us h hv _ hc h1
    cases vs with
    | nil => simp only [layA, Option.some.injEq] at h; subst h; exact ⟨us, rfl, hc, h1⟩
    | cons => simp at hv
  | cons p ps ih =>
    intro vs cs cs' us h hv hr hc h1
    cases vs with
    | nil => simp at hv
    | cons v vs =>
      obtain ⟨i, ds⟩ := p
      obtain ⟨j, v⟩ := v
      simp only [List.map_cons, List.cons.injEq] at hv
      obtain ⟨rfl, hv⟩ := hv
      simp only [layA] at h
      split at h
      · cases h
      · rename_i off size hp
        cases hb : (Nat.beq ds.length size && Nat.ble (off + ds.length) cs.length)
        · rw [hb] at h; cases h
        · rw [hb] at h
          simp only [cond_true] at h
          simp only [Bool.and_eq_true] at hb
          have hb1 := Nat.eq_of_beq_eq_true hb.1
          have hb2 := Nat.le_of_ble_eq_true hb.2
          obtain ⟨h2, h3⟩ := hr 0 (j, ds) (j, v) rfl rfl
          have hvl : v.cells.size = ds.length := by simpa using h2.len
          have hul := hc.len
          have hus : us.toList.length = us.size := by simp
          simp only [Instr.fill, hp]
          rw [if_neg (by simp; omega)]
          refine ih h hv (fun i p u hp hu => hr (i + 1) p u (by simpa using hp) (by simpa using hu)) ?_ ?_
          · rw [zip_arr, fold_over, Nat.add_zero]; exact hc.over h2
          · rw [zip_arr, fold_over, Nat.add_zero]; exact over_one h1 h3

def evas (l : AFr) (ps : List (Nat × Operand)) : List (Option (Nat × List AV)) := ps.map fun p => (aev l p.2).bind fun a => (cellsA a).map fun cs => (p.1, cs)

section
variable {P : Program} {N : Ev} {X : Cx} {Q : APost} {st : AS}
variable {d : Nat} {T U T' : TypeId} {pos : String} {aft : Array Edge} {g : Option (Nat × Bool)} {x y : Operand} {k ky : IntKind} {a b : Int}

theorem Conc.evs {fr : Fr} {w : World} {m : Mem} {ρ : List Value} {φ : List Frag} (hc : Conc X st fr w m ρ φ) : ∀ {ps : List (Nat × Operand)} {qs : List (Nat × List AV)}, evas st.l ps = qs.map some →
    ∃ vs, evos fr ps = some vs ∧ vs.map (·.1) = qs.map (·.1) ∧ ∀ (i : Nat) (p : Nat × List AV) (v : Nat × Value), qs[i]? = some p → vs[i]? = some v → RepL m ρ p.2 v.2.cells.toList ∧ ∀ u ∈ v.2.cells.toList, u.oneCell' = true := by
  intro ps
  induction ps with
  | nil => intro qs h; cases qs with
    | nil => exact ⟨[], rfl, rfl, fun i p v hp => by simp at hp⟩
    | cons => simp [evas] at h
  | cons p ps ih => intro qs h; cases qs with
    | nil => simp [evas] at h
    | cons q qs =>
      simp only [evas, List.map_cons, List.cons.injEq] at h
      obtain ⟨h1, h2⟩ := h
      obtain ⟨vs, h3, h4, h5⟩ := ih h2
      obtain ⟨a, ha, hb⟩ := Option.bind_eq_some_iff.1 h1
      obtain ⟨cs, hcs, hq⟩ := Option.map_eq_some_iff.1 hb
      subst hq
      obtain ⟨v, h6, h7⟩ := hc.ev ha
      obtain ⟨i, x⟩ := p
      refine ⟨(i, v) :: vs, by simp only [evos]; rw [h6, h3], by simp [h4], fun j p u hp hu => ?_⟩
      cases j with
      | zero => simp at hp hu; subst hp hu; exact rep_cells hcs h7
      | succ j => exact h5 j p u (by simpa using hp) (by simpa using hu)

/-- How a struct or an array is built. -/
def BuildT (P : Program) (T : Nat) (z : Value) (place : Nat → Option (Nat × Nat)) : Prop := ∀ ps w, (Instr.build T ps).run P w = (match Instr.fill place z.cells ps.toList with
  | some cells => Result.ok (.agg cells) w
  | none => (Instr.build T ps).run P w)
theorem av_build {z : Value} {zs : List AV} {place : Nat → Option (Nat × Nat)} {ps : List (Nat × Operand)} {qs : List (Nat × List AV)} {cs : List AV} (hT : BuildT P T z place) (hz : cellsA (ofV z) = some zs) (hx : evas st.l ps = qs.map some) (hl : layA place zs qs = some cs) (hN : Nat.blt d N.n = true := by rfl) :
    AOpV P N X ⟨some d, .build T ps.toArray, U, pos, aft, g⟩ (.agg cs) st :=
  av_of rfl fun Q fr w m ρ φ hc => by
    obtain ⟨vs, h1, h2, h3⟩ := hc.evs hx
    obtain ⟨h4, h5⟩ := rep_cells hz (rep_ofV m ρ z)
    obtain ⟨us, h6, h7, h8⟩ := lay_fill hl h2 h3 h4 h5
    refine ⟨.agg us, ?_, fun K hk => op_build h1 (fun w => ?_) hN hk⟩
    · simp only [RepA]; exact ⟨us.toList, by simp, h7, h8⟩
    · rw [hT]; simp [h6]
theorem buildT_struct {z : Value} {fs : Array Field} {pl : List (Nat × Nat)} (hz : Zero P T z) (hu : P.underlying T = some (.struct fs)) (hp : ∀ w, (fs.mapM (fun f => do pure (f.offset, ← sizeOf f.type) : Field → Sem (Nat × Nat))).run P w = .ok pl.toArray w) : BuildT P T z (fun i => pl[i]?) := by
  intro ps w
  split
  · rename_i cells h
    simp only [Instr.build, Sem.run_bind, hz w, Result.andThen_ok, run_underlying hu, hp w]
    simp [h]
  · rfl
theorem buildT_array {z : Value} {n e sz : Nat} (hz : Zero P T z) (hu : P.underlying T = some (.array n e)) (hs : Sz P e sz) : BuildT P T z (fun i => some (i * sz, sz)) := by
  intro ps w
  split
  · rename_i cells h
    simp only [Instr.build, Sem.run_bind, hz w, Result.andThen_ok, run_underlying hu, hs w]
    simp [h]
  · rfl

/-- A literal slice that is read alone. -/
def BuildS (P : Program) (T E : Nat) (t : Ty) : Prop := P.underlying T = some (.slice E) ∧ ∃ i z, P.info? E = some i ∧ i.zero = some z ∧ i.size = t.cells ∧ z.cells.toList = zeroV t
theorem zeroV_one : ∀ (t : Ty), ∀ u ∈ zeroV t, u.oneCell' = true := fun t u hu => (rc_zero (fun _ => none) t).one u hu

theorem run_buildSlice {w : World} {E : Nat} {t : Ty} {ps : Array (Nat × Value)} {n : Nat} (hT : BuildS P T E t) (hn : Nat.ble (n * t.cells) 16777216 = true) {us : Array Value} :
    ∃ zs : Array Value, zs.toList = (List.replicate n (zeroV t)).flatten ∧ (Instr.fill (fun i => some (i * t.cells, t.cells)) zs ps.toList = some us → (Instr.buildSlice T n ps).run P w = .ok (.slice (some ⟨w.heap.size, 0, none⟩) n n) { w with heap := w.heap.push (.cells us E) }) := by
  obtain ⟨hu, i, z, hi, hz, hs, hzs⟩ := hT
  have hn' := Nat.le_of_ble_eq_true hn
  have hzsz : z.cells.size = t.cells := by have := (rc_zero (fun _ => none) t).len; rw [← hzs] at this; simpa using this
  by_cases h0 : n * t.cells = 0
  · refine ⟨#[], ?_, fun h => ?_⟩
    · have : (List.replicate n (zeroV t)).flatten.length = 0 := by
        rw [flatten_len (k := t.cells) (by simp : (List.replicate n (zeroV t)).length = n), h0]
        intro u hu; rw [List.eq_of_mem_replicate hu]; exact (rc_zero (fun _ => none) t).len
      exact (List.eq_nil_of_length_eq_zero this).symm
    · simp [Instr.buildSlice, run_underlying hu, sizeOf, typeInfo, hi, hs, h0, Array.range_zero', h, newRow]
  · refine ⟨madeCells z.cells (n * t.cells), ?_, fun h => ?_⟩
    · rw [← hzsz]; exact made_rows hzs n
    · have hno : ¬ (16777216 < n * t.cells) := by omega
      have h' : Instr.fill (fun i => some (i * t.cells, t.cells)) ((Array.range (n * t.cells)).map (z.cells[· % z.cells.size]!)) ps.toList = some us := h
      simp [Instr.buildSlice, run_underlying hu, sizeOf, typeInfo, hi, hs, h0, hno, zeroValue, hz, h', newRow]

theorem rows_of_expl {m : Mem} {ρ : List Value} {t : Ty} : ∀ {ys : List t.den} {vs : List Value}, (ys.all fun y => t.fit y) = true → RepL m ρ ((ys.map (expl t)).flatten) vs → RowsC m t ys vs := by
  intro ys
  induction ys with
  | nil => intro vs _ h; cases vs with
    | nil => exact RowsC.nil
    | cons => simp [RepL] at h
  | cons y ys ih =>
    intro vs hno h
    simp only [List.all_cons, Bool.and_eq_true] at hno
    simp only [List.map_cons, List.flatten_cons] at h
    obtain ⟨u1, u2, rfl, g1, g2⟩ := RepL.split h
    refine RowsC.app (x := [y]) ⟨[u1], rfl, by simp, fun i e u he hu => ?_⟩ (ih hno.2 g2)
    cases i with
    | zero => simp at he hu; subst he hu; exact rc_of_expl hno.1 g1
    | succ i => simp at he
theorem av_buildSlice {E n : Nat} {t : Ty} {ps : List (Nat × Operand)} {qs : List (Nat × List AV)} {zs cs : List AV} {ys : List t.den} (hT : BuildS P T E t) (hx : evas st.l ps = qs.map some) (hz : ((List.replicate n (zeroV t)).flatten).map ofV1 = zs) (hl : layA (fun i => some (i * t.cells, t.cells)) zs qs = some cs) (hy : (ys.map (expl t)).flatten = cs) (hn : Nat.beq ys.length n = true) (hc : Nat.ble (n * t.cells) 16777216 = true) (hc1 : Nat.ble n 16777216 = true) (hno : (ys.all fun y => t.fit y) = true) (hN : Nat.blt d N.n = true := by rfl) :
    AOpV P N X ⟨some d, .buildSlice T n ps.toArray, U, pos, aft, g⟩ (.sl t ys) st := by
  intro Q fr w m ρ φ hcc
  obtain ⟨vs, h1, h2, h3⟩ := hcc.evs hx
  have hzl := run_buildSlice (w := w) (ps := vs.toArray) hT hc (us := #[])
  have hz' : ∀ (l : List Value), RepL m ρ (l.map ofV1) l := by
    intro l
    induction l with
    | nil => simp [RepL]
    | cons v l ih => simp only [List.map_cons, RepL]; exact ⟨rep_ofV1 m ρ v, ih⟩
  obtain ⟨zz, hzz, _⟩ := hzl
  obtain ⟨us, h6, h7, h8⟩ := lay_fill (us := zz) hl h2 h3 (by rw [← hz, hzz]; exact hz' _) (by
    rw [hzz]; intro u hu
    obtain ⟨r, hr, hur⟩ := List.mem_flatten.1 hu
    rw [List.eq_of_mem_replicate hr] at hur
    exact zeroV_one t u hur)
  obtain ⟨zz', hzz', hrun⟩ := run_buildSlice (w := w) (ps := vs.toArray) hT hc (us := us)
  have hzeq : zz' = zz := Array.toList_inj.1 (hzz'.trans hzz.symm)
  subst hzeq
  have hr := hrun (by simpa using h6)
  have hn' := Nat.eq_of_beq_eq_true hn
  refine op_val (v := .slice (some ⟨w.heap.size, 0, none⟩) n n) rfl hN (fun s hs => ?_) ?_ (dk_new (new_push w (.cells us E)))
  · have e := evos_eval hs h1
    simp only [execOp, List.map_toArray, Sem.run_bind]
    rw [show (List.map (fun (x : Nat × Operand) => match x with | (i, x) => (i, s.eval x)) ps) = vs from e, hr]
    rfl
  · have hs := hcc.sh.alloc (new_push w (.cells us E)) rfl
    refine ⟨d, _, rfl, rfl, (new_push w _).ext, m.add [(w.heap.size, .cells us E)], Mem.le_add _ _, SH.frz (g := [(w.heap.size, .cells us E)]) (by simpa using hs), ?_⟩
    simp only [RepA]
    have hmem : m.add [(w.heap.size, .cells us E)] w.heap.size = some (.cells us E) := add_get (by simp) (by simp) (by have := hs.dis (w.heap.size, .cells us E) (by simp); exact this) rfl
    have hrows : RowsC m t ys us.toList := by rw [← hy] at h7; exact rows_of_expl hno h7
    have h47 : cap47 = 140737488355328 := rfl
    have hc1' := Nat.le_of_ble_eq_true hc1
    have := rows_slice (c := n) hmem (RowsC.mono (Mem.le_add m [(w.heap.size, .cells us E)]) hrows) (by rw [← hrows.len, List.take_length]) (by omega) (by omega)
    rw [hn'] at this; exact this

/-! parts of structs -/
/-- What a field of a struct's value is. -/
def FieldV (P : Program) (T f off : Nat) (b : Bool) (n : Nat) : Prop := ∀ cs w, off + n ≤ cs.size → n = n → (Instr.field T (.agg cs) f).run P w = .ok (if b then .agg (cs.extract off (off + n)) else cs[off]?.getD undef) w
theorem fieldV_of {fs : Array Field} {fl : Field} {f off : Nat} {b : Bool} {n : Nat} (hu : P.underlying T = some (.struct fs)) (hf : fs[f]? = some fl) (ho : fl.offset = off) (hT : TyS P fl.type b n) (hn : b = false → n = 1) : FieldV P T f off b n := by
  intro cs w hl _
  subst ho
  cases b with
  | true => simp [Instr.field, run_underlying hu, hf, part, Sem.run_bind, hT.1 w, hT.2 w, asAgg]
  | false =>
    have := hn rfl
    subst this
    have : cs[fl.offset]? = some (cs[fl.offset]'(by omega)) := Array.getElem?_eq_getElem (by omega)
    simp [Instr.field, run_underlying hu, hf, part, Sem.run_bind, hT.1 w, asAgg, this]
theorem av_field {f off : Nat} {cs : List AV} {v : AV} {r : List AV} (hf : FieldV P T f off false 1) (hx : aev st.l x = some (.agg cs)) (hd : cs.drop off = v :: r) (hN : Nat.blt d N.n = true := by rfl) : AOpV P N X ⟨some d, .field T x f, U, pos, aft, g⟩ v st :=
  av_of rfl fun Q fr w m ρ φ hc => by
    obtain ⟨p, h1, h2⟩ := hc.ev hx
    simp only [RepA] at h2
    obtain ⟨us, rfl, h3, h4⟩ := h2
    have h5 := h3.drop off
    rw [hd] at h5
    obtain ⟨u, us', h6, h7, _⟩ := h5.one1
    have h8 : us[off]? = some u := by
      have : (us.drop off)[0]? = some u := by rw [h6]; rfl
      rw [List.getElem?_drop] at this
      simpa using this
    have hl := (List.getElem?_eq_some_iff.1 h8).1
    refine ⟨u, h7, fun K hk => op_field h1 (fun w => ?_) hN hk⟩
    rw [hf us.toArray w (by simp; omega) rfl]
    simp [h8]
/-! texts -/
theorem bstr_ext (s : Str) (l h : Nat) : (bstr s).extract l h = bstr ((s.take h).drop l) := by
  have : ((bstr s).extract l h).data = (bstr ((s.take h).drop l)).data := by
    simp [bstr, ByteArray.data_extract, List.extract_eq_take_drop, List.drop_take]
  cases hh : (bstr s).extract l h; rw [hh] at this; simp only at this; subst this; rfl
/-- The bounds of a slice expression. -/
def slOk (lo hi : Int) (n : Nat) : Bool := decide (0 ≤ lo) && decide (lo ≤ hi) && decide (hi ≤ n)
def osI (st : AS) (o : Option Operand) (dflt : Int) (z : Int) : Prop := match o with
  | none => z = dflt
  | some x => ∃ k, aev st.l x = some (.int k z)
theorem run_bounds {isS : Bool} {len cap : Nat} {lo hi : Option Value} {l h : Int} (hl : match lo with | none => l = 0 | some v => ∃ k, v = .int k l) (hh : match hi with | none => h = len | some v => ∃ k, v = .int k h) (h0 : 0 ≤ l) (h1 : l ≤ h) (h2 : h ≤ cap) (w : World) :
    (Instr.sliceBounds isS len cap lo hi none).run P w = .ok (l.toNat, h.toNat, cap) w := by
  cases lo with
  | none =>
    simp only at hl; subst hl
    cases hi with
    | none => simp only at hh; subst hh; simp [Instr.sliceBounds]
    | some v => obtain ⟨k, rfl⟩ := hh; simp [Instr.sliceBounds, Instr.sliceBound, asIntOf, h2, show (0 : Int) ≤ h by omega]
  | some u =>
    obtain ⟨k', rfl⟩ := hl
    cases hi with
    | none => simp only at hh; subst hh; simp [Instr.sliceBounds, Instr.sliceBound, asIntOf, h0, h1]
    | some v =>
      obtain ⟨k, rfl⟩ := hh
      have h3 : (0 : Int) ≤ h := by omega
      have h4 : l ≤ ((h.toNat : Nat) : Int) := by omega
      simp [Instr.sliceBounds, Instr.sliceBound, asIntOf, h2, h3, h0, h4]
      intro h5; omega
theorem osI_val {fr : Fr} {w : World} {m : Mem} {ρ : List Value} {φ : List Frag} (hc : Conc X st fr w m ρ φ) {o : Option Operand} {df z : Int} (h : osI st o df z) {s : Act} (hs : Holds N fr s) : match o.map s.eval with | none => z = df | some v => ∃ k, v = .int k z := by
  cases o with
  | none => exact h
  | some x => obtain ⟨k, hk⟩ := h; exact ⟨k, hs.eval (hc.int hk)⟩
theorem av_slice_str {s : Str} {lo hi : Option Operand} {l h : Int} (hU : Und P T .string) (hx : aev st.l x = some (.str s)) (hl : osI st lo 0 l) (hh : osI st hi (s.length : Int) h) (hb : slOk l h s.length = true) (hN : Nat.blt d N.n = true := by rfl) : AOpV P N X ⟨some d, .slice T x lo hi none, U, pos, aft, g⟩ (.str ((s.take h.toNat).drop l.toNat)) st :=
  av_of rfl fun Q fr w m ρ φ hc => ⟨_, rep_str, fun K hk => op_val rfl hN (fun ac ha => by
    simp only [slOk, Bool.and_eq_true, decide_eq_true_eq] at hb
    have e1 := osI_val hc hl ha
    have e2 := osI_val hc hh ha
    have hr := run_bounds (P := P) (isS := false) (len := (bstr s).size) (cap := (bstr s).size) (lo := lo.map ac.eval) (hi := hi.map ac.eval) e1 (by rw [bstr_size]; exact e2) hb.1.1 hb.1.2 (by rw [bstr_size]; exact hb.2) w
    simp [execOp, Instr.sliceAt, Instr.slice, ha.eval (hc.str hx), run_underlying hU, hr, bstr_ext]) hk⟩

theorem RowsC.sub {m : Mem} {t : Ty} {x : List t.den} {b o : Nat} (h : ∀ (i : Nat) (y : t.den), x[i]? = some y → ∃ us, RC m t y us ∧ CellsM m b (o + i * t.cells) us) (l r : Nat) : ∀ (i : Nat) (y : t.den), ((x.take r).drop l)[i]? = some y → ∃ us, RC m t y us ∧ CellsM m b (o + l * t.cells + i * t.cells) us := by
  intro i y hy
  rw [List.getElem?_drop, List.getElem?_take] at hy
  split at hy
  · obtain ⟨us, h1, h2⟩ := h _ y hy
    exact ⟨us, h1, by rw [Nat.add_mul, ← Nat.add_assoc] at h2; exact h2⟩
  · cases hy
/-! conversions -/
end
end Go.Ab


set_option linter.unusedVariables false
set_option linter.unusedSimpArgs false
namespace Go.Ab
open Go.RowKit Go.Shelf Go.Proofs Go.Eng

/-! knowing less -/
def posN : List Nat → Nat → Option Nat
  | [], _ => none
  | j :: r, i => bif Nat.beq j i then some 0 else (posN r i).map (· + 1)
theorem posN_get : ∀ {σ : List Nat} {i j : Nat}, posN σ i = some j → σ[j]? = some i := by
  intro σ
  induction σ with
  | nil => intro i j h; simp [posN] at h
  | cons a σ ih =>
    intro i j h
    simp only [posN] at h
    cases hb : Nat.beq a i
    · rw [hb] at h
      simp only [cond_false] at h
      obtain ⟨j', h1, rfl⟩ := Option.map_eq_some_iff.1 h
      simpa using ih h1
    · rw [hb] at h
      simp only [cond_true, Option.some.injEq] at h
      subst h
      simp [Nat.eq_of_beq_eq_true hb]
theorem posN_none : ∀ {σ : List Nat} {i : Nat}, posN σ i = none → i ∉ σ := by
  intro σ
  induction σ with
  | nil => intro i _; simp
  | cons a σ ih =>
    intro i h
    simp only [posN] at h
    cases hb : Nat.beq a i
    · rw [hb] at h
      simp only [cond_false, Option.map_eq_none_iff] at h
      simp only [List.mem_cons, not_or]
      refine ⟨fun e => ?_, ih h⟩
      subst e; simp at hb
    · rw [hb] at h; simp at h

/-- What is seen when but the objects σ stay owned. -/
def coeA (H : AH) (σ : List Nat) : Nat → AV → AV
  | _, .osl i => match posN σ i with
    | some j => .osl j
    | none => match H.get i with
      | .sl _ t x => .sl t x
      | _ => .any
  | _, .map i => match posN σ i with
    | some j => .map j
    | none => match H.get i with
      | .map tk tv x => .dm tk tv x
      | _ => .any
  | _, .ep i sz z o => match posN σ i with
    | some j => .ep j sz z o
    | none => .any
  | 0, .ptr i o => match posN σ i with
    | some j => .ptr j o
    | none => .any
  | d + 1, .ptr i o => match posN σ i with
    | some j => .ptr j o
    | none => match H.get i with
      | .var _ cs => .rp ((cs.drop o).map (coeA H σ d))
      | _ => .any
  | 0, .rp _ => .any
  | 0, .agg _ => .any
  | 0, .tup _ => .any
  | 0, .fn _ _ _ => .any
  | d + 1, .rp cs => .rp (cs.map (coeA H σ d))
  | d + 1, .agg cs => .agg (cs.map (coeA H σ d))
  | d + 1, .tup cs => .tup (cs.map (coeA H σ d))
  | d + 1, .fn f a b => .fn f (a.map (coeA H σ d)) (b.map (coeA H σ d))
  | _, .sog i => match posN σ i with
    | some j => .sog j
    | none => match H.get i with
      | .slo _ _ t x => .sl (.slice t) x
      | _ => .any
  | _, .epg i k => match posN σ i with
    | some j => .epg j k
    | none => .any
  | _, .row i k => match posN σ i with
    | some j => .row j k
    | none => .any
  | _, .epr i k sz z o => match posN σ i with
    | some j => .epr j k sz z o
    | none => .any
  | _, a => a

/-- A weaker view. -/
def cv (a' a : AV) : Prop := a' = a ∨ a' = .any ∨ (a = .nils ∧ ∃ t, a' = .sl t []) ∨ (a' = .clo a ∧ renA [] a = a)
theorem cv0 {a : AV} : cv a a := .inl rfl
theorem cv2 {t : Ty} : cv (.sl t []) .nils := .inr (.inr (.inl ⟨rfl, t, rfl⟩))
theorem cv3 {a : AV} (h : renA [] a = a) : cv (.clo a) a := .inr (.inr (.inr ⟨rfl, h⟩))
theorem cv_rep {m : Mem} {ρ : List Value} {a' a : AV} {v : Value} (h : cv a' a) (hr : RepA m ρ a v) : RepA m ρ a' v := by
  rcases h with rfl | rfl | ⟨rfl, t, rfl⟩ | ⟨rfl, h⟩
  rotate_left 3
  · simp only [RepA]
    refine ren_fwd (σ := []) (ρ := ρ) (fun i j u hi _ => by simp at hi) a ?_
    rw [h]; exact hr
  · exact hr
  · simp only [RepA]
  · simp only [RepA] at hr
    subst hr
    simp only [RepA, RC]
    exact ⟨none, 0, 0, rfl, rfl, Nat.le_refl _, Nat.zero_le _, 0, 0, fun h => absurd h (by omega), fun i y hy => by simp at hy⟩
def cvL : List AV → List AV → Prop
  | [], [] => True
  | a' :: r, a :: s => cv a' a ∧ cvL r s
  | _, _ => False
theorem cvL_rep {m : Mem} {ρ : List Value} : ∀ {as' bs : List AV} {vs : List Value}, cvL as' bs → RepL m ρ bs vs → RepL m ρ as' vs := by
  intro as'
  induction as' with
  | nil => intro bs vs h hr; cases bs with
    | nil => exact hr
    | cons => exact h.elim
  | cons a as' ih => intro bs vs h hr; cases bs with
    | nil => exact h.elim
    | cons b bs => cases vs with
      | nil => simp [RepL] at hr
      | cons v vs => simp only [RepL] at hr ⊢; exact ⟨cv_rep h.1 hr.1, ih h.2 hr.2⟩

def coeO (H : AH) (σ : List Nat) (d : Nat) : AO → AO
  | .var T cs => .var T (cs.map (coeA H σ d))
  | .mpt k v x hs => if hs.all (fun q => (posN σ q.2).isSome) then .mpt k v x (hs.map fun q => (q.1, (posN σ q.2).getD 0)) else .guest fun _ _ => True
  | .mapr tk tv x left cur j => match posN σ j with
    | some j' => .mapr tk tv x left cur j'
    | none => .guest fun _ _ => True
  | .sloh .. => .guest fun _ _ => True
  | o => o
def cvO (o' o : AO) : Prop := o' = o ∨ ∃ T cs' cs, o' = .var T cs' ∧ o = .var T cs ∧ cvL cs' cs
theorem cvo0 {o : AO} : cvO o o := .inl rfl
theorem cvo1 {T : TypeId} {cs' cs : List AV} (h : cvL cs' cs) : cvO (.var T cs') (.var T cs) := .inr ⟨T, cs', cs, rfl, rfl, h⟩

/-- All that is known in 'st'' is known in 'st', with the same machine. -/
def Wk (X : Cx) (st st' : AS) : Prop := ∀ fr w m ρ φ, Conc X st fr w m ρ φ → ∃ m' ρ' φ', Conc X st' fr w m' ρ' φ'
theorem Wk.refl {X : Cx} {st : AS} : Wk X st st := fun fr w m ρ φ h => ⟨m, ρ, φ, h⟩
theorem Wk.trans {X : Cx} {a b c : AS} (h : Wk X a b) (k : Wk X b c) : Wk X a c := fun fr w m ρ φ hc => let ⟨_, _, _, h1⟩ := h fr w m ρ φ hc; k _ _ _ _ _ h1

def wkS (l : AFr) (H : AH) (σ : List Nat) (d : Nat) : AFr → Prop
  | [] => True
  | (t, a') :: r => (∃ a, (l.look t).map (coeA H σ d) = some a ∧ cv a' a) ∧ wkS l H σ d r
def wkO (H : AH) (σ : List Nat) (d : Nat) (H' : AH) : Nat → List Nat → Prop
  | _, [] => True
  | j, i :: r => cvO (H'.get j) (coeO H σ d (H.get i)) ∧ wkO H σ d H' (j + 1) r
/-- Objects are named once, the first ones as before. -/
def wkB (k n : Nat) (σ : List Nat) : Bool := nodupB σ && (σ.all fun i => Nat.blt i n) && Nat.ble k σ.length && ((List.range k).all fun i => match σ[i]? with
  | some j => Nat.beq i j
  | none => false)

theorem wkS_get {l : AFr} {H : AH} {σ : List Nat} {d : Nat} : ∀ {l' : AFr}, wkS l H σ d l' → ∀ t a', l'.look t = some a' → ∃ a, l.look t = some a ∧ cv a' (coeA H σ d a) := by
  intro l'
  induction l' with
  | nil => intro _ t a' h; simp [AFr.look] at h
  | cons p r ih =>
    intro h t a' ht
    obtain ⟨q, b⟩ := p
    simp only [wkS] at h
    rw [AFr.look_cons] at ht
    split at ht
    · rename_i e; subst e; cases ht
      obtain ⟨a, h1, h2⟩ := h.1
      obtain ⟨a0, h3, rfl⟩ := Option.map_eq_some_iff.1 h1
      exact ⟨a0, h3, h2⟩
    · exact ih h.2 t a' ht
theorem wkO_get {H : AH} {σ0 : List Nat} {d : Nat} {H' : AH} : ∀ {σ : List Nat} {j : Nat}, wkO H σ0 d H' j σ → ∀ p i, σ[p]? = some i → cvO (H'.get (j + p)) (coeO H σ0 d (H.get i)) := by
  intro σ
  induction σ with
  | nil => intro j _ p i h; simp at h
  | cons a r ih =>
    intro j h p i hi
    simp only [wkO] at h
    cases p with
    | zero => simp at hi; subst hi; exact h.1
    | succ p => rw [show j + (p + 1) = (j + 1) + p by omega]; exact ih h.2 p i (by simpa using hi)

theorem flatMap_getD (φ : List Frag) (σ : List Nat) : (σ.map fun i => φ.getD i []).flatten = σ.flatMap fun i => φ.getD i [] := by
  rw [List.flatMap_def]

theorem slrep_rc {m m' : Mem} (hm : m.le m') {T : TypeId} {t : Ty} {x : List t.den} {v : Value} {f : Frag} (h : SlRep m T t x v f) (hf : ∀ p ∈ f, ctl p.2 = false → m' p.1 = some p.2) : RC m' (.slice t) x [v] := by
  obtain ⟨h0, ⟨rfl, rfl, rfl⟩ | ⟨b, c, cs, vs, rfl, rfl, q1, q2, q3, q4, q5⟩⟩ := h
  · simp only [RC]; exact ⟨none, 0, 0, rfl, rfl, Nat.le_refl _, Nat.zero_le _, 0, 0, fun h => absurd h (by omega), fun i y hy => by simp at hy⟩
  · exact rows_slice (hf (b, _) (List.mem_singleton.2 rfl) rfl) (q4.mono hm) q5 q1 h0
theorem RowsO.at {m : Mem} {T : TypeId} {t : Ty} : ∀ {x : List (List t.den)} {rs : List Value} {fs : List Frag}, RowsO m T t x rs fs → rs.length = x.length ∧ fs.length = x.length ∧ ∀ (i : Nat) (y : List t.den), x[i]? = some y → ∃ r f, rs[i]? = some r ∧ fs[i]? = some f ∧ SlRep m T t y r f := by
  intro x
  induction x with
  | nil => intro rs fs h; cases rs with
    | nil => cases fs with
      | nil => exact ⟨rfl, rfl, fun i y hy => by simp at hy⟩
      | cons => exact h.elim
    | cons => exact h.elim
  | cons z x ih => intro rs fs h; cases rs with
    | nil => exact h.elim
    | cons r rs => cases fs with
      | nil => exact h.elim
      | cons f fs =>
        obtain ⟨h1, h2, h3⟩ := ih h.2
        refine ⟨by simp [h1], by simp [h2], fun i y hy => ?_⟩
        cases i with
        | zero => simp at hy; subst hy; exact ⟨r, f, rfl, rfl, h.1⟩
        | succ i => simpa using h3 i y (by simpa using hy)
theorem slo_rc {m m' : Mem} (hm : m.le m') {ρ : List Value} {T T' : TypeId} {t : Ty} {x : List (List t.den)} {v : Value} {rs : List Value} {f : Frag} (h : ORep m ρ (.slo T T' t x) (.tuple (v :: rs).toArray) f) (hf : ∀ p ∈ f, ctl p.2 = false → m' p.1 = some p.2) : RC m' (.slice (.slice t)) x [v] := by
  obtain ⟨rs', fs, f0, b, c, cs, h1, rfl, rfl, h4, h5, h6, h7, h8, h9⟩ := h
  simp only [Value.tuple.injEq, List.toArray_inj, List.cons.injEq] at h1
  obtain ⟨rfl, rfl⟩ := h1
  obtain ⟨l1, l2, l3⟩ := h9.at
  refine ⟨_, _, c, rfl, rfl, h5, h4, b, 0, fun _ => rfl, fun i y hy => ?_⟩
  obtain ⟨r, g, k1, k2, k3⟩ := l3 i y hy
  refine ⟨[r], slrep_rc hm k3 (fun p hp hpc => hf p ?_ hpc), ?_⟩
  · rw [List.mem_append]; right
    exact List.mem_flatten.2 ⟨g, List.mem_of_getElem? k2, hp⟩
  · intro j u hj
    cases j with
    | succ j => simp at hj
    | zero =>
      simp at hj; subst hj
      refine ⟨cs, T, (0, 0), hf (b, _) (by simp) rfl, ?_⟩
      rw [← h8, List.getElem?_take] at k1
      split at k1
      · simpa [Ty.cells] using k1
      · cases k1

theorem coe_rep {m m' : Mem} {ρ ρ' : List Value} {φ : List Frag} {H : AH} {σ : List Nat} (hm : m.le m') (hσ : ∀ i j h, posN σ i = some j → ρ[i]? = some h → ρ'[j]? = some h) (hfz : ∀ i h, posN σ i = none → ρ[i]? = some h → ∃ f, ORep m ρ (H.get i) h f ∧ ∀ p ∈ f, ctl p.2 = false → m' p.1 = some p.2) :
    ∀ (d : Nat) {a : AV} {v : Value}, RepA m ρ a v → RepA m' ρ' (coeA H σ d a) v := by
  intro d
  induction d with
  | zero =>
    intro a v h
    cases a with
    | osl i =>
      simp only [coeA]
      simp only [RepA] at h
      cases hp : posN σ i with
      | some j => simp only [RepA]; exact ⟨hσ i j v hp h.1, h.2⟩
      | none =>
        obtain ⟨f, h1, h2⟩ := hfz i v hp h.1
        cases ho : H.get i with
        | sl T t x =>
          rw [ho] at h1
          simp only [RepA]
          obtain ⟨h0, ⟨rfl, rfl, rfl⟩ | ⟨b, c, cs, vs, rfl, rfl, q1, q2, q3, q4, q5⟩⟩ := h1
          · simp only [RC]; exact ⟨none, 0, 0, rfl, rfl, Nat.le_refl _, Nat.zero_le _, 0, 0, fun h => absurd h (by omega), fun i y hy => by simp at hy⟩
          · exact rows_slice (h2 (b, _) (List.mem_singleton.2 rfl) rfl) (q4.mono hm) q5 q1 h0
        | _ => simp only [RepA]
    | map i =>
      simp only [coeA]
      simp only [RepA] at h
      cases hp : posN σ i with
      | some j => simp only [RepA]; exact ⟨hσ i j v hp h.1, h.2⟩
      | none =>
        obtain ⟨f, h1, h2⟩ := hfz i v hp h.1
        cases ho : H.get i with
        | map tk tv x =>
          rw [ho] at h1
          obtain ⟨b, es, cl, rfl, rfl, h3⟩ := h1
          simp only [RepA]
          exact .inr ⟨b, es, cl, rfl, h2 (b, _) (List.mem_singleton.2 rfl) rfl, EntM.mono hm (x := x) h3⟩
        | _ => simp only [RepA]
    | ep i sz z o =>
      simp only [coeA]
      simp only [RepA] at h
      obtain ⟨b, n, c, h1, h2⟩ := h
      cases hp : posN σ i with
      | some j => simp only [RepA]; exact ⟨b, n, c, hσ i j _ hp h1, h2⟩
      | none => simp only [RepA]
    | ptr i o =>
      simp only [coeA]
      simp only [RepA] at h
      obtain ⟨b, h1, h2⟩ := h
      cases hp : posN σ i with
      | some j => simp only [RepA]; exact ⟨b, hσ i j _ hp h1, h2⟩
      | none => simp only [RepA]
    | sog i =>
      simp only [coeA]
      simp only [RepA] at h
      obtain ⟨rs, g1, g2⟩ := h
      cases hp : posN σ i with
      | some j => simp only [RepA]; exact ⟨rs, hσ i j _ hp g1, g2⟩
      | none =>
        obtain ⟨f, h1, h2⟩ := hfz i _ hp g1
        cases ho : H.get i with
        | slo T T' t x =>
          rw [ho] at h1
          simp only [RepA]
          exact slo_rc hm h1 h2
        | _ => simp only [RepA]
    | epg i k =>
      simp only [coeA]
      simp only [RepA] at h
      obtain ⟨b, n, c, rs, h1, h2⟩ := h
      cases hp : posN σ i with
      | some j => simp only [RepA]; exact ⟨b, n, c, rs, hσ i j _ hp h1, h2⟩
      | none => simp only [RepA]
    | row i k =>
      simp only [coeA]
      simp only [RepA] at h
      obtain ⟨hd, rs, h1, h2⟩ := h
      cases hp : posN σ i with
      | some j => simp only [RepA]; exact ⟨hd, rs, hσ i j _ hp h1, h2⟩
      | none => simp only [RepA]
    | epr i k sz z o =>
      simp only [coeA]
      simp only [RepA] at h
      obtain ⟨hd, rs, b, n, c, h1, h2⟩ := h
      cases hp : posN σ i with
      | some j => simp only [RepA]; exact ⟨hd, rs, b, n, c, hσ i j _ hp h1, h2⟩
      | none => simp only [RepA]
    | clo a => simp only [coeA, RepA] at h ⊢; exact RepA.mono hm (fun _ _ h => h) a h
    | rp cs => simp only [coeA, RepA]
    | agg cs => simp only [coeA, RepA]
    | tup cs => simp only [coeA, RepA]
    | fn f a b => simp only [coeA, RepA]
    | sl t x => simp only [coeA, RepA] at h ⊢; exact h.mono hm
    | dm tk tv x => simp only [coeA, RepA] at h ⊢; exact h.mono hm
    | bad => simp only [RepA] at h
    | any => simp only [coeA, RepA]
    | _ => simpa only [coeA, RepA] using h
  | succ d ih =>
    have ihL : ∀ {as' : List AV} {vs : List Value}, RepL m ρ as' vs → RepL m' ρ' (as'.map (coeA H σ d)) vs := by
      intro as'
      induction as' with
      | nil => intro vs h; cases vs with
        | nil => simp [RepL]
        | cons => simp [RepL] at h
      | cons a as' ih2 => intro vs h; cases vs with
        | nil => simp [RepL] at h
        | cons v vs => simp only [List.map_cons, RepL] at h ⊢; exact ⟨ih h.1, ih2 h.2⟩
    intro a v h
    cases a with
    | osl i =>
      simp only [coeA]
      simp only [RepA] at h
      cases hp : posN σ i with
      | some j => simp only [RepA]; exact ⟨hσ i j v hp h.1, h.2⟩
      | none =>
        obtain ⟨f, h1, h2⟩ := hfz i v hp h.1
        cases ho : H.get i with
        | sl T t x =>
          rw [ho] at h1
          simp only [RepA]
          obtain ⟨h0, ⟨rfl, rfl, rfl⟩ | ⟨b, c, cs, vs, rfl, rfl, q1, q2, q3, q4, q5⟩⟩ := h1
          · simp only [RC]; exact ⟨none, 0, 0, rfl, rfl, Nat.le_refl _, Nat.zero_le _, 0, 0, fun h => absurd h (by omega), fun i y hy => by simp at hy⟩
          · exact rows_slice (h2 (b, _) (List.mem_singleton.2 rfl) rfl) (q4.mono hm) q5 q1 h0
        | _ => simp only [RepA]
    | map i =>
      simp only [coeA]
      simp only [RepA] at h
      cases hp : posN σ i with
      | some j => simp only [RepA]; exact ⟨hσ i j v hp h.1, h.2⟩
      | none =>
        obtain ⟨f, h1, h2⟩ := hfz i v hp h.1
        cases ho : H.get i with
        | map tk tv x =>
          rw [ho] at h1
          obtain ⟨b, es, cl, rfl, rfl, h3⟩ := h1
          simp only [RepA]
          exact .inr ⟨b, es, cl, rfl, h2 (b, _) (List.mem_singleton.2 rfl) rfl, EntM.mono hm (x := x) h3⟩
        | _ => simp only [RepA]
    | ep i sz z o =>
      simp only [coeA]
      simp only [RepA] at h
      obtain ⟨b, n, c, h1, h2⟩ := h
      cases hp : posN σ i with
      | some j => simp only [RepA]; exact ⟨b, n, c, hσ i j _ hp h1, h2⟩
      | none => simp only [RepA]
    | ptr i o =>
      simp only [coeA]
      simp only [RepA] at h
      obtain ⟨b, h1, rfl⟩ := h
      cases hp : posN σ i with
      | some j => simp only [RepA]; exact ⟨b, hσ i j _ hp h1, rfl⟩
      | none =>
        obtain ⟨f, h3, h4⟩ := hfz i _ hp h1
        cases ho : H.get i with
        | var T cs =>
          rw [ho] at h3
          obtain ⟨b', us, q1, rfl, q3, q4⟩ := h3
          cases q1
          simp only [RepA]
          refine ⟨b, o, us.drop o, rfl, ihL (q3.drop o), ?_, fun u hu => q4 u (List.mem_of_mem_drop hu)⟩
          intro j u hj
          rw [List.getElem?_drop] at hj
          exact ⟨_, _, _, h4 (b, _) (List.mem_singleton.2 rfl) rfl, by simpa using hj⟩
        | _ => simp only [RepA]
    | sog i =>
      simp only [coeA]
      simp only [RepA] at h
      obtain ⟨rs, g1, g2⟩ := h
      cases hp : posN σ i with
      | some j => simp only [RepA]; exact ⟨rs, hσ i j _ hp g1, g2⟩
      | none =>
        obtain ⟨f, h1, h2⟩ := hfz i _ hp g1
        cases ho : H.get i with
        | slo T T' t x =>
          rw [ho] at h1
          simp only [RepA]
          exact slo_rc hm h1 h2
        | _ => simp only [RepA]
    | epg i k =>
      simp only [coeA]
      simp only [RepA] at h
      obtain ⟨b, n, c, rs, h1, h2⟩ := h
      cases hp : posN σ i with
      | some j => simp only [RepA]; exact ⟨b, n, c, rs, hσ i j _ hp h1, h2⟩
      | none => simp only [RepA]
    | row i k =>
      simp only [coeA]
      simp only [RepA] at h
      obtain ⟨hd, rs, h1, h2⟩ := h
      cases hp : posN σ i with
      | some j => simp only [RepA]; exact ⟨hd, rs, hσ i j _ hp h1, h2⟩
      | none => simp only [RepA]
    | epr i k sz z o =>
      simp only [coeA]
      simp only [RepA] at h
      obtain ⟨hd, rs, b, n, c, h1, h2⟩ := h
      cases hp : posN σ i with
      | some j => simp only [RepA]; exact ⟨hd, rs, b, n, c, hσ i j _ hp h1, h2⟩
      | none => simp only [RepA]
    | clo a => simp only [coeA, RepA] at h ⊢; exact RepA.mono hm (fun _ _ h => h) a h
    | rp cs =>
      simp only [coeA, RepA] at h ⊢
      obtain ⟨b, o, us, h1, h2, h3, h4⟩ := h
      exact ⟨b, o, us, h1, ihL h2, h3.mono hm, h4⟩
    | agg cs =>
      simp only [coeA, RepA] at h ⊢
      obtain ⟨us, h1, h2, h3⟩ := h
      exact ⟨us, h1, ihL h2, h3⟩
    | tup cs =>
      simp only [coeA, RepA] at h ⊢
      obtain ⟨us, h1, h2⟩ := h
      exact ⟨us, h1, ihL h2⟩
    | fn f a b =>
      simp only [coeA, RepA] at h ⊢
      obtain ⟨us, ws, h1, h2, h3⟩ := h
      exact ⟨us, ws, h1, ihL h2, ihL h3⟩
    | sl t x => simp only [coeA, RepA] at h ⊢; exact h.mono hm
    | dm tk tv x => simp only [coeA, RepA] at h ⊢; exact h.mono hm
    | bad => simp only [RepA] at h
    | any => simp only [coeA, RepA]
    | _ => simpa only [coeA, RepA] using h

theorem wk_of {X : Cx} {k : Nat} (hX : X.ρ.length = k) {st st' : AS} (σ : List Nat) (d : Nat) (hn : Nat.beq st'.n σ.length = true) (hB : wkB k st.n σ = true) (hs : wkS st.l st.H σ d st'.l) (ho : wkO st.H σ d st'.H 0 σ) : Wk X st st' := by
  intro fr w m ρ φ hc
  have hn := Nat.eq_of_beq_eq_true hn
  simp only [wkB, Bool.and_eq_true] at hB
  obtain ⟨⟨⟨hB1, hB2⟩, hB3⟩, hB4⟩ := hB
  have hnd := nodup_of hB1
  have hlt : ∀ i ∈ σ, i < st.n := by
    intro i hi
    rw [List.all_eq_true] at hB2
    simpa using hB2 i hi
  have hk := Nat.le_of_ble_eq_true hB3
  have hpre : ∀ i, i < k → σ[i]? = some i := by
    intro i hi
    rw [List.all_eq_true] at hB4
    have := hB4 i (List.mem_range.2 hi)
    split at this
    · rename_i j hj; rw [hj, Nat.eq_of_beq_eq_true this]
    · cases this
  -- what goes
  let G : Frag := ((List.range st.n).filter fun i => !σ.contains i).flatMap fun i => φ.getD i []
  let φ' : List Frag := σ.map fun i => φ.getD i []
  let ρ' : List Value := σ.map fun i => ρ.getD i undef
  have hperm : (φ.flatten ++ X.F).Perm (G ++ (φ'.flatten ++ X.F)) := by
    rw [← List.append_assoc]
    refine List.Perm.append_right _ ?_
    rw [flatten_range, hc.nφ]
    refine ((range_split hnd hlt).flatMap_right _).trans ?_
    rw [List.flatMap_append]
    refine List.perm_append_comm.trans ?_
    show (G ++ _).Perm (G ++ φ'.flatten)
    rw [show φ'.flatten = σ.flatMap fun i => φ.getD i [] from flatMap_getD φ σ]
  have hsh := hc.sh.perm hperm
  have hnodG := hsh.nd
  have hmem : ∀ p ∈ G, ctl p.2 = false → (m.add G) p.1 = some p.2 := by
    intro p hp hpc
    rw [List.map_append, List.nodup_append] at hnodG
    exact add_get hnodG.1 hp (hsh.dis p (by simp [hp])) hpc
  have hle := Mem.le_add m G
  have hgetρ : ∀ i h, ρ[i]? = some h → ρ.getD i undef = h := fun i h hi => by rw [List.getD_eq_getElem?_getD, hi]; rfl
  have hgetφ : ∀ i f, φ[i]? = some f → φ.getD i [] = f := fun i f hi => by rw [List.getD_eq_getElem?_getD, hi]; rfl
  have hσ : ∀ i j h, posN σ i = some j → ρ[i]? = some h → ρ'[j]? = some h := by
    intro i j h hp hi
    have := posN_get hp
    simp only [ρ', List.getElem?_map, this, Option.map_some, hgetρ i h hi]
  have hfz : ∀ i h, posN σ i = none → ρ[i]? = some h → ∃ f, ORep m ρ (st.H.get i) h f ∧ ∀ p ∈ f, ctl p.2 = false → (m.add G) p.1 = some p.2 := by
    intro i h hp hi
    obtain ⟨f, hf, h1, _⟩ := hc.obj hi
    refine ⟨f, h1, fun p hpf hpc => hmem p ?_ hpc⟩
    simp only [G, List.mem_flatMap, List.mem_filter, List.mem_range, Bool.not_eq_true', List.contains_eq_mem, decide_eq_false_iff_not]
    exact ⟨i, ⟨by rw [← hc.nρ]; exact (List.getElem?_eq_some_iff.1 hi).1, posN_none hp⟩, by rw [hgetφ i f hf]; exact hpf⟩
  have hcoe : ∀ {a : AV} {v : Value}, RepA m ρ a v → RepA (m.add G) ρ' (coeA st.H σ d a) v := fun h => coe_rep (φ := φ) hle hσ hfz d h
  have hcoeL : ∀ {as' : List AV} {vs : List Value}, RepL m ρ as' vs → RepL (m.add G) ρ' (as'.map (coeA st.H σ d)) vs := by
    intro as'
    induction as' with
    | nil => intro vs h; cases vs with
      | nil => simp [RepL]
      | cons => simp [RepL] at h
    | cons a as' ih2 => intro vs h; cases vs with
      | nil => simp [RepL] at h
      | cons v vs => simp only [List.map_cons, RepL] at h ⊢; exact ⟨hcoe h.1, ih2 h.2⟩
  refine ⟨m.add G, ρ', φ', hc.mle.trans hle, ?_, by simp [ρ', hn], by simp [φ', hn], ?_, ?_, hsh.frz⟩
  · intro i h hi
    have h1 := (List.getElem?_eq_some_iff.1 hi).1
    have h2 := hpre i (by omega)
    simp only [ρ', List.getElem?_map, h2, Option.map_some, hgetρ i h (hc.pre i h hi)]
  · intro t a' ht
    obtain ⟨a, h1, h2⟩ := wkS_get hs t a' ht
    obtain ⟨v, h3, h4⟩ := hc.slots t a h1
    exact ⟨v, h3, cv_rep h2 (hcoe h4)⟩
  · intro j h f hj hf
    simp only [ρ', List.getElem?_map, Option.map_eq_some_iff] at hj
    simp only [φ', List.getElem?_map, Option.map_eq_some_iff] at hf
    obtain ⟨i, hi, rfl⟩ := hj
    obtain ⟨i', hi', rfl⟩ := hf
    rw [hi] at hi'; cases hi'
    have hin := hlt i (List.mem_of_getElem? hi)
    obtain ⟨u, hu⟩ : ∃ u, ρ[i]? = some u := ⟨_, List.getElem?_eq_getElem (by rw [hc.nρ]; exact hin)⟩
    obtain ⟨f, hf, h1, _⟩ := hc.obj hu
    rw [hgetρ i u hu, hgetφ i f hf]
    have h2 := wkO_get ho j i hi
    rw [Nat.zero_add] at h2
    have h3 : ORep (m.add G) ρ' (coeO st.H σ d (st.H.get i)) u f := by
      cases hoi : st.H.get i with
      | var T cs =>
        rw [hoi] at h1
        obtain ⟨b, us, q1, q2, q3, q4⟩ := h1
        exact ⟨b, us, q1, q2, hcoeL q3, q4⟩
      | dead => rw [hoi] at h1; exact h1
      | sl T t x =>
        rw [hoi] at h1
        obtain ⟨h0, q | ⟨b, c, cs, vs, q1, q2, q3, q4, q5, q6, q7⟩⟩ := h1
        · exact ⟨h0, .inl q⟩
        · exact ⟨h0, .inr ⟨b, c, cs, vs, q1, q2, q3, q4, q5, q6.mono hle, q7⟩⟩
      | map tk tv x =>
        rw [hoi] at h1
        have h5 : ORep (m.add G) ρ (.map tk tv x) u f := ORep.mono hle (fun _ _ h => h) h1
        exact h5
      | slo T T' t x =>
        rw [hoi] at h1
        have h5 : ORep (m.add G) ρ (.slo T T' t x) u f := ORep.mono hle (fun _ _ h => h) h1
        exact h5
      | guest p =>
        rw [hoi] at h1
        have h5 : ORep (m.add G) ρ (.guest p) u f := ORep.mono hle (fun _ _ h => h) h1
        exact h5
      | bld T E s => rw [hoi] at h1; exact h1
      | sloh => exact ⟨_, hle, trivial⟩
      | mit tk tv left cur =>
        rw [hoi] at h1
        have h5 : ORep (m.add G) ρ (.mit tk tv left cur) u f := ORep.mono hle (fun _ _ h => h) h1
        exact h5
      | mapr tk tv x left cur j =>
        rw [hoi] at h1
        have h5 : ORep (m.add G) ρ (.mapr tk tv x left cur j) u f := ORep.mono hle (fun _ _ h => h) h1
        simp only [coeO]
        split
        · rename_i j' hj'
          obtain ⟨b, es, cl, r, since, c0, seen, q1, q2, q3, q4⟩ := h5
          exact ⟨b, es, cl, r, since, c0, seen, q1, q2, hσ _ _ _ hj' q3, q4⟩
        · exact ⟨_, hle, trivial⟩
      | mpt k v x hs =>
        rw [hoi] at h1
        have h5 : ORep (m.add G) ρ (.mpt k v x hs) u f := ORep.mono hle (fun _ _ h => h) h1
        simp only [coeO]
        split
        · rename_i hall
          rw [List.all_eq_true] at hall
          obtain ⟨h0, h00, b, es, cl, fs, q1, q2, q3, q4, q5, q6⟩ := h5
          have key : ∀ (z : k.den) (j : Nat), (z, j) ∈ hs.map (fun q => (q.1, (posN σ q.2).getD 0)) → ∃ n, (z, n) ∈ hs ∧ ∀ u, ρ[n]? = some u → ρ'[j]? = some u := by
            intro z j hz
            obtain ⟨q, hq, he⟩ := List.mem_map.1 hz
            rw [Prod.mk.injEq] at he
            refine ⟨q.2, by rw [← he.1]; exact hq, fun u hu => ?_⟩
            obtain ⟨j', hj⟩ := Option.isSome_iff_exists.1 (hall _ hq)
            have := he.2
            rw [hj, Option.getD_some] at this
            rw [← this]; exact hσ _ _ _ hj hu
          refine ⟨h0, fun q hq => ?_, b, es, cl, fs, q1, q2, q3, q4, q5, fun i p e g a1 a2 a3 => ?_⟩
          · obtain ⟨n, hn, hr⟩ := key q.1 q.2 hq
            exact (h00 _ hn).tr hr
          · obtain ⟨b1, b2, b3⟩ := q6 i p e g a1 a2 a3
            refine ⟨b1, fun j hj => ?_, fun hn => b3 fun n hm => ?_⟩
            · obtain ⟨n, hn, hr⟩ := key _ _ hj
              exact ⟨(b2 n hn).1, hr _ (b2 n hn).2⟩
            · exact hn _ (List.mem_map.2 ⟨(p.1, n), hm, rfl⟩)
        · exact ⟨_, hle, trivial⟩
    rcases h2 with h2 | ⟨T, cs', cs, h4, h5, h6⟩
    · rw [h2]; exact h3
    · rw [h4]
      rw [h5] at h3
      obtain ⟨b, us, q1, q2, q3, q4⟩ := h3
      exact ⟨b, us, q1, q2, cvL_rep h6 q3, q4⟩

section
variable {P : Program} {N : Ev} {X : Cx} {Q : APost} {st : AS}
theorem awc_wk {c : Code} {st' : AS} (h : Wk X st st') (k : AWC P N X c Q st') : AWC P N X c Q st := fun fr w m ρ φ hc => let ⟨_, _, _, h1⟩ := h fr w m ρ φ hc; k _ _ _ _ _ h1
theorem awl_wk {ops : Array Oper} {rest : List Oper} {st' : AS} (h : Wk X st st') (k : AWL P N X ops Q rest st') : AWL P N X ops Q rest st := fun fr w m ρ φ hc => let ⟨_, _, _, h1⟩ := h fr w m ρ φ hc; k _ _ _ _ _ h1

/-- A nil slice that the call will own. -/
theorem wk_own {t : Nat} (E : TypeId) (ty : Ty) (hx : st.l.look t = some .nils) : Wk X st (st.new t (.osl st.n) (.sl E ty [])) := by
  intro fr w m ρ φ hc
  obtain ⟨v, h1, h2⟩ := hc.slots t _ hx
  simp only [RepA] at h2
  subst h2
  have h3 := hc.newObj (d := t) (av := .osl st.n) (v := .slice none 0 0) (h := .slice none 0 0) (o := .sl E ty []) (f := []) (Mem.le_refl _) (by simpa using hc.sh) ⟨by simp, .inl ⟨rfl, rfl, rfl⟩⟩ (by simp only [RepA]; exact ⟨by rw [← hc.nρ]; simp, rfl⟩)
  refine ⟨m, _, _, h3.mle, h3.pre, h3.nρ, h3.nφ, ?_, h3.objs, h3.sh⟩
  intro q a hq
  obtain ⟨v, h4, h5⟩ := h3.slots q a hq
  rw [Fr.look_cons] at h4
  split at h4
  · rename_i e; subst e; cases h4; exact ⟨_, h1, h5⟩
  · exact ⟨v, h4, h5⟩

/-! loops -/
/-- Rounds until it is left, at most so many. -/
def lrun {S R : Type} (b : S → Option (S ⊕ R)) : Nat → S → Option R
  | 0, _ => none
  | k + 1, s => (b s).bind fun o => match o with
    | .inl s' => lrun b k s'
    | .inr r => some r
def loopQ {S R : Type} (X : Cx) (Inv : S → AS) (Qx : R → APost) : S ⊕ R → APost
  | .inl s', .normal, st => Wk X st (Inv s')
  | .inl _, _, _ => False
  | .inr _, .normal, _ => False
  | .inr r, e, st => Qx r e st
theorem awc_loop {S R : Type} {c : Code} (Inv : S → AS) (b : S → Option (S ⊕ R)) (Qx : R → APost) {k : Nat} {s : S} {r : R} (hr : lrun b k s = some r) (hi : Wk X st (Inv s)) (hQ : ∀ e st, Qx r e st → Q e st)
    (body : ∀ s o, b s = some o → AWC P N X c (loopQ X Inv Qx o) (Inv s)) : AWC P N X (.loop c) Q st := by
  intro fr w m ρ φ hc
  obtain ⟨m1, ρ1, φ1, h1⟩ := hi fr w m ρ φ hc
  intro a ha hg
  refine wpIn_loopG (fun (x : S × Nat) a w => ∃ fr, lrun b x.2 x.1 = some r ∧ (∃ m ρ φ, Conc X (Inv x.1) fr w m ρ φ) ∧ Holds N fr a ∧ Eng.Good N a w) (fun x => x.2) (s, k) ⟨fr, hr, ⟨_, _, _, h1⟩, ha, hg⟩ ?_
  rintro ⟨s, k⟩ a w ⟨fr, hr, ⟨m, ρ, φ, hc⟩, ha, hg⟩
  cases k with
  | zero => simp [lrun] at hr
  | succ k =>
    simp only [lrun] at hr
    obtain ⟨o, ho, hr⟩ := Option.bind_eq_some_iff.1 hr
    refine wpIn_mono (body s o ho fr w m ρ φ hc a ha hg) ?_
    rintro e a' w' ⟨l', hl', g', st', m', ρ', φ', h2, h3⟩
    cases o with
    | inl s' =>
      cases e with
      | normal =>
        obtain ⟨m2, ρ2, φ2, h4⟩ := h3 _ _ _ _ _ h2
        exact ⟨(s', k), ⟨l', hr, ⟨m2, ρ2, φ2, h4⟩, hl', g'⟩, Nat.lt_succ_self k⟩
      | _ => exact h3.elim
    | inr r' =>
      simp only [Option.some.injEq] at hr
      subst hr
      cases e with
      | normal => exact h3.elim
      | _ => exact ⟨l', hl', g', st', m', ρ', φ', h2, hQ _ _ h3⟩
end
end Go.Ab


set_option linter.unusedVariables false
set_option linter.unusedSimpArgs false
namespace Go.Ab
open Go.RowKit Go.Shelf Go.Proofs Go.Eng

/-! the end of a function -/
def retW (P : Program) (X : Cx) (rs : List ResultVar) (k : Nat) (R : List AV → List AO → Prop) : APost
  | .normal, st | .ret, st => ∃ st', Wk X st st' ∧ aretQ P rs k R .normal st'
  | _, _ => False
theorem runs_w {P : Program} {f : FuncId} {fn : Func} {c : Code} {n : Nat} {args : List AV} {H : List AO} {R : List AV → List AO → Prop} {rs : List ResultVar} (hf : P.funcs[f]? = some fn) (hN : fn.ntmps = n) (hb : fn.body = some c) (hr : fn.results = rs.toArray) (hle : Nat.ble args.length n = true)
    (h : ∀ (w0 : World) (X : Cx), X.ρ.length = H.length → AWC P ⟨n, none, w0, nox, false⟩ X c (retW P X rs H.length R) ⟨argA 0 args, zipH 0 H, H.length⟩) : Runs P f args H R := by
  refine runs_of hf hN hb hr hle fun w0 X hX fr w m ρ φ hc => WC.mono ?_ (h w0 X hX fr w m ρ φ hc)
  rintro e l w ⟨st, m, ρ, φ, h1, h2⟩
  cases e with
  | normal => obtain ⟨st', h3, h4⟩ := h2; obtain ⟨m', ρ', φ', h5⟩ := h3 _ _ _ _ _ h1; exact ⟨st', m', ρ', φ', h5, h4⟩
  | ret => obtain ⟨st', h3, h4⟩ := h2; obtain ⟨m', ρ', φ', h5⟩ := h3 _ _ _ _ _ h1; exact ⟨st', m', ρ', φ', h5, h4⟩
  | _ => exact h2.elim
theorem ret_q {P : Program} {X : Cx} {rs : List ResultVar} {st : AS} {as' r : List AV} {l' : AFr} (h : Wk X st ⟨l', [], 0⟩) (hr : as' = r) (ho : AOuts P l' rs as') : retW P X rs 0 (fun q H' => q = r ∧ H' = []) .ret st :=
  ⟨⟨l', [], 0⟩, h, as', _, ho, rfl, rfl, hr, rfl⟩
theorem retW_norm {P : Program} {X : Cx} {rs : List ResultVar} {k : Nat} {R : List AV → List AO → Prop} {st : AS} (h : retW P X rs k R .ret st) : retW P X rs k R .normal st := h

/-! regions whose order is drawn, or whose operations are guarded -/
abbrev TT := Bool × AV
def phi (e : World) (m : Mem) (ρ : List Value) (f : Frag) (T : TT) : VP := fun v W => (T.1 = true → ∃ m', m.le m' ∧ SH e W m' f ∧ RepA m' ρ T.2 v) ∧ (T.1 = false → v = undef)
def dstAt (ops : List Oper) (j : Nat) : Nat := match ops[j]? with
  | some o => o.dst.getD 0
  | none => 0
def ttAt (Ts : List TT) (j : Nat) : TT := match Ts[j]? with
  | some T => T
  | none => (false, .bad)
def allT (Ts : List TT) : List Nat → Prop
  | [] => True
  | j :: r => (ttAt Ts j).1 = true ∧ allT Ts r
theorem allT_of {Ts : List TT} : ∀ {js : List Nat}, allT Ts js → ∀ j ∈ js, (ttAt Ts j).1 = true := by
  intro js
  induction js with
  | nil => intro _ j h; simp at h
  | cons a r ih =>
    intro h j hj
    rcases List.mem_cons.1 hj with rfl | hj
    · exact h.1
    · exact ih h.2 j hj
/-- The frame with what is asked about. -/
def depF (ops : List Oper) (Ts : List TT) : List Nat → AFr → AFr
  | [], l => l
  | j :: r, l => depF ops Ts r ((dstAt ops j, (ttAt Ts j).2) :: l)
def keepF (l : AFr) : List Nat → AFr
  | [] => []
  | t :: r => (t, match l.look t with
    | some a => a
    | none => .bad) :: keepF l r

/-- What holds of a frame behind the values asked about. -/
inductive DF (ops : List Oper) (Φ : Nat → VP) (W : World) : List Nat → Fr → Fr → Prop
  | nil {l : Fr} : DF ops Φ W [] l l
  | cons {j : Nat} {r : List Nat} {l l' : Fr} {v : Value} : Φ j v W → DF ops Φ W r ((dstAt ops j, v) :: l) l' → DF ops Φ W (j :: r) l l'

theorem gather_df {ops : List Oper} {Φs : List VP} {Φ : Nat → VP} {W : World} {K : Fr → Prop} (hΦ : ∀ j o, ops[j]? = some o → Φs[j]? = some (Φ j)) : ∀ {js : List Nat} {l : Fr}, (js.all fun j => match ops[j]? with
    | some o => o.dst.isSome
    | none => false) = true → (∀ l', DF ops Φ W js l l' → K l') → Gather (depAt ops Φs js) l W K := by
  intro js
  induction js with
  | nil => intro l _ h; exact h l .nil
  | cons j r ih =>
    intro l hd h
    simp only [List.all_cons, Bool.and_eq_true] at hd
    obtain ⟨hd1, hd2⟩ := hd
    split at hd1
    · rename_i o ho
      obtain ⟨d, hd⟩ := Option.isSome_iff_exists.1 hd1
      have e1 : (ops[j]?).bind (·.dst) = some d := by rw [ho]; exact hd
      have e2 : (Φs[j]?).getD (fun _ _ => True) = Φ j := by rw [hΦ j o ho]; rfl
      have e3 : dstAt ops j = d := by simp [dstAt, ho, hd]
      simp only [depAt, List.map_cons, e1, e2]
      intro v hv
      refine ih hd2 fun l' hl => h l' (.cons hv ?_)
      rw [e3]; exact hl
    · cases hd1

theorem DF.keep {ops : List Oper} {Φ : Nat → VP} {W : World} {js : List Nat} {l l' : Fr} (h : DF ops Φ W js l l') : ∀ {t : Nat} {v : Value}, l.look t = some v → (∀ j ∈ js, dstAt ops j ≠ t) → l'.look t = some v := by
  induction h with
  | nil => intro t v h _; exact h
  | cons hv _ ih =>
    intro t v h hn
    refine ih ?_ (fun j hj => hn j (by simp [hj]))
    rw [Fr.look_cons, if_neg (hn _ (by simp))]; exact h
theorem DF.look {ops : List Oper} {Φ : Nat → VP} {W : World} {js : List Nat} {l l' : Fr} (h : DF ops Φ W js l l') : (js.map (dstAt ops)).Nodup → ∀ {j : Nat}, j ∈ js → ∃ v, l'.look (dstAt ops j) = some v ∧ Φ j v W := by
  induction h with
  | nil => intro _ j hj; simp at hj
  | @cons i r l l' v hv hr ih =>
    intro hn j hj
    rw [List.map_cons, List.nodup_cons] at hn
    by_cases e : j ∈ r
    · exact ih hn.2 e
    · have : j = i := by rcases List.mem_cons.1 hj with h | h; exact h; exact absurd h e
      subst this
      refine ⟨v, hr.keep (by rw [Fr.look_cons, if_pos rfl]) ?_, hv⟩
      intro q hq e'
      exact hn.1 (e' ▸ List.mem_map.2 ⟨q, hq, rfl⟩)

/-- Two readings of one memory. -/
def Mem.sup (a b : Mem) : Mem := fun k => match a k with
  | some o => some o
  | none => b k
theorem sup_sh {e W : World} {a b : Mem} {f : Frag} (h : SH e W a f) (k : SH e W b f) : SH e W (a.sup b) f ∧ a.le (a.sup b) ∧ b.le (a.sup b) := by
  refine ⟨⟨h.os, h.tape, h.output, ?_, h.own, h.nd, ?_, h.noctl, ?_, h.esz⟩, fun x o hx => by simp [Mem.sup, hx], ?_⟩
  · intro x o hx
    unfold Mem.sup at hx
    split at hx
    · rename_i o' ho; cases hx; exact h.fz _ _ ho
    · exact k.fz _ _ hx
  · intro p hp
    unfold Mem.sup
    rw [h.dis p hp]; exact k.dis p hp
  · intro x o hx
    unfold Mem.sup at hx
    split at hx
    · rename_i o' ho; cases hx; exact h.mctl _ _ ho
    · exact k.mctl _ _ hx
  · intro x o hx
    unfold Mem.sup
    cases ha : a x with
    | none => exact hx
    | some o' =>
      have h1 := h.fz _ _ ha
      have h2 := k.fz _ _ hx
      rw [h1] at h2; exact h2

section
variable {P : Program} {N : Ev} {X : Cx} {Q : APost} {st : AS}

theorem conc_df {ops : List Oper} {Ts : List TT} {W : World} {m : Mem} {ρ : List Value} {φ : List Frag} {H : AH} {n : Nat} {js : List Nat} {l l' : Fr} (h : DF ops (fun j => phi X.e m ρ (φ.flatten ++ X.F) (ttAt Ts j)) W js l l') : ∀ {lA : AFr} {m1 : Mem}, m.le m1 → Conc X ⟨lA, H, n⟩ l W m1 ρ φ → (∀ j ∈ js, (ttAt Ts j).1 = true) → ∃ m', m.le m' ∧ Conc X ⟨depF ops Ts js lA, H, n⟩ l' W m' ρ φ := by
  induction h with
  | nil => intro lA m1 hm hc _; exact ⟨m1, hm, hc⟩
  | @cons j r l l' v hv _ ih =>
    intro lA m1 hm hc ht
    obtain ⟨m2, h2, h3, h4⟩ := hv.1 (ht j (by simp))
    obtain ⟨h5, h6, h7⟩ := sup_sh hc.sh h3
    have hc' : Conc X (AS.put ⟨lA, H, n⟩ (dstAt ops j) (ttAt Ts j).2) ((dstAt ops j, v) :: l) W (m1.sup m2) ρ φ := (hc.grow h6 h5).put (RepA.mono h7 (fun _ _ h => h) _ h4)
    exact ih (hm.trans h6) hc' (fun q hq => ht q (by simp [hq]))

/-- What is owed of an operation. -/
def AOb (P : Program) (N : Ev) (X : Cx) (ops : List Oper) (Ts : List TT) (lA : AFr) (H : AH) (n : Nat) (o : Oper) (T : TT) (js : List Nat) : Prop :=
  ∀ (Q : Post) lb W m0 m ρ φ, m0.le m → Conc X ⟨lA, H, n⟩ lb W m ρ φ → ∀ l', DF ops (fun j => phi X.e m0 ρ (φ.flatten ++ X.F) (ttAt Ts j)) W js lb l' →
    OpG P N (fun w W => Below w.heap.size w W) ops o (phi X.e m0 ρ (φ.flatten ++ X.F) T) Q l' W

def guardOk (ops : List Oper) (Ts : List TT) (o : Oper) (T : TT) (js : List Nat) : Prop := match o.guard with
  | none => T.1 = true
  | some (j, b) => memB j js = true ∧ nodupB (js.map (dstAt ops)) = true ∧ (match ops[j]? with
    | some o => o.dst.isSome
    | none => false) = true ∧ ∃ c, (ttAt Ts j).2 = .bool c ∧ T.1 = ((ttAt Ts j).1 && (bif b then c else !c))

theorem opg_of {ops : List Oper} {Ts : List TT} {lA : AFr} {H : AH} {n : Nat} {o : Oper} {T : TT} {js : List Nat} (hg : guardOk ops Ts o T js)
    (h : T.1 = true → ∀ (Q : Post) lb W m0 m ρ φ, m0.le m → Conc X ⟨lA, H, n⟩ lb W m ρ φ → ∀ l', DF ops (fun j => phi X.e m0 ρ (φ.flatten ++ X.F) (ttAt Ts j)) W js lb l' →
      OpW P N o (fun l'' W' => toldL o (phi X.e m0 ρ (φ.flatten ++ X.F) T) l'' W' ∧ Below W.heap.size W W') Q l' W) : AOb P N X ops Ts lA H n o T js := by
  intro Q lb W m0 m ρ φ hm hc l' hd
  unfold OpG
  unfold guardOk at hg
  cases ho : o.guard with
  | none => rw [ho] at hg; exact h hg Q lb W m0 m ρ φ hm hc l' hd
  | some p =>
    obtain ⟨j, b⟩ := p
    rw [ho] at hg
    simp only at hg
    obtain ⟨h1, h2, h3, c, h4, h5⟩ := hg
    obtain ⟨v, hv, hφ⟩ := hd.look (nodup_of h2) (memB_iff.1 h1)
    split at h3
    · rename_i o' ho'
      obtain ⟨d, hdd⟩ := Option.isSome_iff_exists.1 h3
      have e3 : dstAt ops j = d := by simp [dstAt, ho', hdd]
      rw [e3] at hv
      refine ⟨v, by rw [ho']; simp [hdd, hv], fun hvb => h ?_ Q lb W m0 m ρ φ hm hc l' hd, fun hvb => ⟨fun hT => absurd ?_ hvb, fun _ => rfl⟩⟩
      · rw [h5]
        cases hg : (ttAt Ts j).1 with
        | false => have := hφ.2 hg; rw [hvb] at this; exact absurd this.symm undef_ne
        | true =>
          obtain ⟨m', _, _, hr⟩ := hφ.1 hg
          rw [h4] at hr
          simp only [RepA] at hr
          rw [hvb] at hr
          cases hr
          cases b <;> rfl
      · rw [h5, Bool.and_eq_true] at hT
        obtain ⟨m', _, _, hr⟩ := hφ.1 hT.1
        rw [h4] at hr
        simp only [RepA] at hr
        have := hT.2
        cases b <;> simp at this <;> subst this <;> exact hr
    · cases h3

/-- An operation that gives a value. -/
theorem ob_v {ops : List Oper} {Ts : List TT} {lA : AFr} {H : AH} {n : Nat} {o : Oper} {T : TT} {js : List Nat} (hg : guardOk ops Ts o T js) (hall : T.1 = true → ∀ j ∈ js, (ttAt Ts j).1 = true)
    (h : T.1 = true → AOpV P N X o T.2 ⟨depF ops Ts js lA, H, n⟩) : AOb P N X ops Ts lA H n o T js := by
  refine opg_of hg fun hT Q lb W m0 m ρ φ hm hc l' hd => ?_
  obtain ⟨m', h1, h2⟩ := conc_df hd hm hc (hall hT)
  intro a ha hgd
  refine Oper.wpIn_mono ?_ (h hT Q l' W m' ρ φ h2 a ha hgd)
  rintro a w' ⟨l'', hl'', g'', ⟨d, v, hdd, rfl, hb, m'', hm'', hs, hr⟩⟩
  refine ⟨_, hl'', g'', told hdd (by rw [Fr.look_cons, if_pos rfl]) ⟨fun _ => ⟨m'', h1.trans hm'', hs, hr⟩, fun hf => ?_⟩, hb⟩
  rw [hT] at hf; cases hf

/-- 'p && q', 'p || q': the second one is asked about where it counts. -/
theorem ob_pick {ops : List Oper} {Ts : List TT} {lA : AFr} {H : AH} {n : Nat} {d U : Nat} {pos : String} {aft : Array Edge} {g : Option (Nat × Bool)} {c x y : Operand} {T : TT} {js js' : List Nat} {jq : Nat} {p q b : Bool}
    (hg : guardOk ops Ts ⟨some d, .pick c x y, U, pos, aft, g⟩ T js) (hjs : js = jq :: js') (hnd : nodupB (js.map (dstAt ops)) = true) (hall : T.1 = true → ∀ j ∈ js', (ttAt Ts j).1 = true)
    (hT2 : T.2 = .bool (bif b then p && q else p || q)) (hc : aev (depF ops Ts js' ((dstAt ops jq, .any) :: lA)) c = some (.bool p)) (hq : ttAt Ts jq = (T.1 && (bif b then p else !p), .bool q)) (hx : (bif b then x else y) = .tmp (dstAt ops jq)) (hy : (bif b then y else x) = .const (.bool (!b))) (hN : Nat.blt d N.n = true := by rfl) :
    AOb P N X ops Ts lA H n ⟨some d, .pick c x y, U, pos, aft, g⟩ T js := by
  refine opg_of hg fun hT Q lb W m0 m ρ φ hm hcc l' hd => ?_
  subst hjs
  obtain ⟨v, hv, hφ⟩ := hd.look (nodup_of hnd) (j := jq) (by simp)
  cases hd with
  | @cons _ _ _ _ v' hv' hr' =>
  have h1 : Conc X (AS.put ⟨lA, H, n⟩ (dstAt ops jq) .any) ((dstAt ops jq, v') :: lb) W m ρ φ := hcc.put (by simp only [RepA])
  obtain ⟨m', h2, h3⟩ := conc_df hr' hm h1 (hall hT)
  have h4 := h3.bool hc
  have hvq : (bif b then p else !p) = true → v = .bool q := by
    intro hb
    have e1 : (ttAt Ts jq).1 = true := by rw [hq]; simp only; rw [hT, hb]; rfl
    obtain ⟨_, _, _, hr⟩ := hφ.1 e1
    rw [hq] at hr
    simpa only [RepA] using hr
  have hres : toldL (⟨some d, .pick c x y, U, pos, aft, g⟩ : Oper) (phi X.e m0 ρ (φ.flatten ++ X.F) T) ((d, .bool (bif b then p && q else p || q)) :: l') W ∧ Below W.heap.size W W := by
    refine ⟨told rfl (by rw [Fr.look_cons, if_pos rfl]) ⟨fun _ => ⟨m', h2, h3.sh, by rw [hT2]; simp only [RepA]⟩, fun hf => ?_⟩, Below.refl _ _⟩
    rw [hT] at hf; cases hf
  refine op_pick (v := .bool (bif b then p && q else p || q)) h4 (fun hp => ?_) (fun hp => ?_) hN hres
  · subst hp
    cases b with
    | true =>
      simp only [cond_true] at hx ⊢
      rw [hx]
      show l'.look _ = _
      rw [hv, hvq rfl]; simp
    | false =>
      simp only [cond_false] at hy ⊢
      rw [hy]; simp [evo]
  · subst hp
    cases b with
    | true =>
      simp only [cond_true] at hy ⊢
      rw [hy]; simp [evo]
    | false =>
      simp only [cond_false] at hx ⊢
      rw [hx]
      show l'.look _ = _
      rw [hv, hvq rfl]; simp

/-- What is owed of all operations. -/
def AObs (P : Program) (N : Ev) (X : Cx) (ops : List Oper) (Ts : List TT) (lA : AFr) (H : AH) (n : Nat) : List Oper → List TT → List (List Nat) → Prop
  | o :: os, T :: r, js :: jss => AOb P N X ops Ts lA H n o T js ∧ AObs P N X ops Ts lA H n os r jss
  | [], [], [] => True
  | _, _, _ => False

/-- The check of EngD, of the slots that are kept. -/
def drawOkK (N : Nat) (ops : List Oper) (dep : List (List Nat)) (ks : List Nat) : Bool :=
  (ops.all fun o => o.dst.isNone || (Nat.blt (dstOf o) N && !memB (dstOf o) ks)) &&
  ((ops.zipIdx).all fun (o, i) => (ops.zipIdx).all fun (o', i') => Nat.beq i i' || (o.dst.isNone || (o'.dst.isNone || !Nat.beq (dstOf o) (dstOf o')))) && Nat.beq dep.length ops.length &&
  ((ops.zip dep).all fun (o, js) => js.all fun j => o.after.toList.any fun e => Region.binds .any e && Nat.beq e.on j) &&
  ((ops.zipIdx).all fun (o, i) => o.after.toList.all fun e => !Region.binds .any e || Nat.blt e.on i)
theorem look_keys : ∀ {l : Fr} {d : Nat}, (l.look d).isNone = !memB d (l.map (·.1)) := by
  intro l
  induction l with
  | nil => intro d; rfl
  | cons p l ih =>
    intro d
    obtain ⟨t, v⟩ := p
    rw [Fr.look_cons]
    simp only [List.map_cons, memB]
    by_cases h : t = d
    · subst h; simp
    · rw [if_neg h]
      have : Nat.beq d t = false := by rw [Bool.eq_false_iff]; intro hc; exact h (Nat.eq_of_beq_eq_true hc).symm
      rw [this, Bool.false_or]; exact ih
theorem draw_keys {N : Nat} {ops : List Oper} {dep : List (List Nat)} {l : Fr} (h : drawOkK N ops dep (l.map (·.1)) = true) : drawOk N ops dep l = true := by
  unfold drawOkK at h
  unfold drawOk
  simp only [look_keys]
  exact h

/-- The concrete frame of the slots that are kept. -/
theorem keep_conc {fr : Fr} {w : World} {m : Mem} {ρ : List Value} {φ : List Frag} (hc : Conc X st fr w m ρ φ) : ∀ {ks : List Nat}, (ks.all fun t => (st.l.look t).isSome) = true → ∃ lb : Fr, lb.map (·.1) = ks ∧ Sub lb fr ∧ Conc X ⟨keepF st.l ks, st.H, st.n⟩ lb w m ρ φ := by
  intro ks
  induction ks with
  | nil => intro _; exact ⟨[], rfl, trivial, hc.mle, hc.pre, hc.nρ, hc.nφ, fun t a h => by simp [keepF, AFr.look] at h, hc.objs, hc.sh⟩
  | cons t r ih =>
    intro h
    simp only [List.all_cons, Bool.and_eq_true] at h
    obtain ⟨lb, h1, h2, h3⟩ := ih h.2
    obtain ⟨a, ha⟩ := Option.isSome_iff_exists.1 h.1
    obtain ⟨v, h4, h5⟩ := hc.slots t a ha
    refine ⟨(t, v) :: lb, by simp [h1], ⟨h4, h2⟩, ?_⟩
    have : keepF st.l (t :: r) = (t, a) :: keepF st.l r := by simp only [keepF, ha]
    rw [this]
    exact h3.put (st := ⟨keepF st.l r, st.H, st.n⟩) h5

theorem phi_mono {e : World} {m : Mem} {ρ : List Value} {f : Frag} {T : TT} : Mono (fun w W => Below w.heap.size w W) (phi e m ρ f T) := by
  intro v W W' hb h
  exact ⟨fun hT => let ⟨m', h1, h2, h3⟩ := h.1 hT; ⟨m', h1, h2.ext hb, h3⟩, h.2⟩
theorem monos_phi {e : World} {m : Mem} {ρ : List Value} {f : Frag} : ∀ (Ts : List TT), Monos (fun w W => Below w.heap.size w W) (Ts.map (phi e m ρ f)) := by
  intro Ts
  induction Ts with
  | nil => trivial
  | cons T r ih => exact ⟨phi_mono, ih⟩
theorem phi_at {e : World} {m : Mem} {ρ : List Value} {f : Frag} {Ts : List TT} {ops : List Oper} (hl : Ts.length = ops.length) : ∀ (j : Nat) (o : Oper), ops[j]? = some o → (Ts.map (phi e m ρ f))[j]? = some (phi e m ρ f (ttAt Ts j)) := by
  intro j o hj
  have hlt := (List.getElem?_eq_some_iff.1 hj).1
  have h1 : Ts[j]? = some (Ts[j]'(by omega)) := List.getElem?_eq_getElem (by omega)
  rw [List.getElem?_map, h1]
  simp [ttAt, h1]

def depsOk (ops : List Oper) (dep : List (List Nat)) : Bool := dep.all fun js => js.all fun j => match ops[j]? with
  | some o => o.dst.isSome
  | none => false
theorem obs_of {ops : List Oper} {Ts : List TT} {lA : AFr} {H : AH} {n : Nat} {lb : Fr} {w : World} {m : Mem} {ρ : List Value} {φ : List Frag} {Q' : Post} (hl : Ts.length = ops.length) (hc : Conc X ⟨lA, H, n⟩ lb w m ρ φ) : ∀ {os : List Oper} {r : List TT} {jss : List (List Nat)}, depsOk ops jss = true → AObs P N X ops Ts lA H n os r jss →
    Obs P N (fun w W => Below w.heap.size w W) ops (Ts.map (phi X.e m ρ (φ.flatten ++ X.F))) Q' lb w os (r.map (phi X.e m ρ (φ.flatten ++ X.F))) jss := by
  intro os
  induction os with
  | nil => intro r jss _ h; unfold Obs; trivial
  | cons o os ih =>
    intro r jss hd h
    cases r with
    | nil => cases jss <;> trivial
    | cons T r => cases jss with
      | nil => trivial
      | cons js jss =>
        simp only [depsOk, List.all_cons, Bool.and_eq_true] at hd
        refine ⟨fun W hW => ?_, ih hd.2 h.2⟩
        exact gather_df (phi_at hl) hd.1 fun l' hl' => h.1 Q' lb W m m ρ φ (Mem.le_refl _) (hc.grow (Mem.le_refl _) (hc.sh.ext hW)) l' hl'

/-- A region whose order is drawn. -/
theorem awc_draw {id : Nat} {ops : List Oper} (hm : P.follows .mixedOrders = true) (ks : List Nat) (Ts : List TT) (dep : List (List Nat)) (live : List Nat) (hks : (ks.all fun t => (st.l.look t).isSome) = true) (hok : drawOkK N.n ops dep ks = true) (hTs : Nat.beq Ts.length ops.length = true) (hlv : (live.all fun i => Nat.blt i ops.length) = true) (hdp : depsOk ops (live :: dep) = true)
    (hob : AObs P N X ops Ts (keepF st.l ks) st.H st.n ops Ts dep) (hall : ∀ j ∈ live, (ttAt Ts j).1 = true) (k : Q .normal ⟨depF ops Ts live (keepF st.l ks), st.H, st.n⟩) : AWC P N X (.region id ops.toArray true) Q st := by
  intro fr w m ρ φ hc
  obtain ⟨lb, h1, h2, h3⟩ := keep_conc hc hks
  have hl := Nat.eq_of_beq_eq_true hTs
  simp only [depsOk, List.all_cons, Bool.and_eq_true] at hdp
  refine wc_draw hm lb h2 (Ts.map (phi X.e m ρ (φ.flatten ++ X.F))) dep live (draw_keys (by rw [h1]; exact hok)) (by rw [List.length_map]; exact hTs) hlv (monos_phi Ts) (obs_of hl h3 hdp.2 hob) ?_
  intro W hW
  refine gather_df (phi_at hl) hdp.1 fun l' hl' => ?_
  obtain ⟨m', h4, h5⟩ := conc_df hl' (Mem.le_refl _) (h3.grow (Mem.le_refl _) (h3.sh.ext hW)) hall
  exact ⟨_, m', ρ, φ, h5, k⟩
/-- A region in the text's order, with guards. -/
theorem awc_text {id : Nat} {ops : List Oper} (ks : List Nat) (Ts : List TT) (dep : List (List Nat)) (live : List Nat) (hks : (ks.all fun t => (st.l.look t).isSome) = true) (hok : drawOkK N.n ops dep ks = true) (hTs : Nat.beq Ts.length ops.length = true) (hlv : (live.all fun i => Nat.blt i ops.length) = true) (hdp : depsOk ops (live :: dep) = true)
    (hob : AObs P N X ops Ts (keepF st.l ks) st.H st.n ops Ts dep) (hall : ∀ j ∈ live, (ttAt Ts j).1 = true) (k : Q .normal ⟨depF ops Ts live (keepF st.l ks), st.H, st.n⟩) : AWC P N X (.region id ops.toArray false) Q st := by
  intro fr w m ρ φ hc
  obtain ⟨lb, h1, h2, h3⟩ := keep_conc hc hks
  have hl := Nat.eq_of_beq_eq_true hTs
  simp only [depsOk, List.all_cons, Bool.and_eq_true] at hdp
  refine wc_text lb h2 (Ts.map (phi X.e m ρ (φ.flatten ++ X.F))) dep live (draw_keys (by rw [h1]; exact hok)) (by rw [List.length_map]; exact hTs) hlv (monos_phi Ts) (obs_of hl h3 hdp.2 hob) ?_
  intro W hW
  refine gather_df (phi_at hl) hdp.1 fun l' hl' => ?_
  obtain ⟨m', h4, h5⟩ := conc_df hl' (Mem.le_refl _) (h3.grow (Mem.le_refl _) (h3.sh.ext hW)) hall
  exact ⟨_, m', ρ, φ, h5, k⟩
end
end Go.Ab


set_option linter.unusedVariables false
set_option linter.unusedSimpArgs false
namespace Go.Ab
open Go.RowKit Go.Shelf Go.Proofs Go.Eng

/-! maps -/
def mget {α β : Type} [DecidableEq α] : List (α × β) → α → Option β
  | [], _ => none
  | p :: r, k => if k = p.1 then some p.2 else mget r k
/-- Entries, one for each pair. -/
def EntL (m : Mem) (tk tv : Ty) : List (tk.den × tv.den) → List MapEntry → Prop
  | [], [] => True
  | p :: x, e :: es => (RV m tk p.1 e.key ∧ RV m tv p.2 e.val) ∧ EntL m tk tv x es
  | _, _ => False
/-- How keys of a type are held against one another. -/
structure KeyT (P : Program) (kT : TypeId) (tk : Ty) [DecidableEq tk.den] : Prop where
  chk : ∀ (m : Mem) (k : tk.den) (v : Value) (b : Bool) (w : World), RV m tk k v → (Instr.checkKey b 10000 kT v).run P w = .ok () w
  find : ∀ (m : Mem) (k : tk.den) (v : Value) (tv : Ty) (x : List (tk.den × tv.den)) (es : List MapEntry) (w : World), RV m tk k v → EntL m tk tv x es →
    ∃ r, (Instr.findKey kT v es).run P w = .ok r w ∧ match r with
      | none => mget x k = none
      | some (i, u) => ∃ y, mget x k = some y ∧ RV m tv y u ∧ (x[i]?).map (·.1) = some k ∧ (∃ e : MapEntry, es[i]? = some e) ∧ ∀ j, j < i → (x[j]?).map (·.1) ≠ some k
  stays : ∀ (m : Mem) (k : tk.den) (u v : Value) (w : World), RV m tk k u → RV m tk k v → (Instr.keyThatStays u v).run P w = .ok v w

section
variable {P : Program} {N : Ev} {X : Cx} {Q : APost} {st : AS}
variable {d : Nat} {T U T' : TypeId} {pos : String} {aft : Array Edge} {g : Option (Nat × Bool)} {x y z : Operand} {k ky : IntKind} {a b : Int}

end
end Go.Ab


set_option linter.unusedVariables false
set_option linter.unusedSimpArgs false
namespace Go.Ab
open Go.RowKit Go.Shelf Go.Proofs Go.Eng

section
variable {P : Program} {N : Ev}
end
section
variable {P : Program} {N : Ev} {X : Cx} {Q : APost} {st : AS}
end
end Go.Ab


set_option linter.unusedVariables false
set_option linter.unusedSimpArgs false
namespace Go.Ab
open Go.RowKit Go.Shelf Go.Proofs Go.Eng

theorem fieldV_of' {P : Program} {T : TypeId} {fs : Array Field} {f ft off : Nat} {b : Bool} {n : Nat} (hu : P.underlying T = some (.struct fs)) (hf : (fs[f]?).map (fun fl => (fl.type, fl.offset)) = some (ft, off)) (hT : TyS P ft b n) (hn : b = false → n = 1) : FieldV P T f off b n := by
  cases h : fs[f]? with
  | none => rw [h] at hf; cases hf
  | some fl => rw [h] at hf; simp at hf; obtain ⟨rfl, h2⟩ := hf; exact fieldV_of hu h h2 hT hn
theorem buildS_of {P : Program} {T E : Nat} {t : Ty} {z : Value} (h1 : P.underlying T = some (.slice E)) (h2 : (P.info? E).map (fun i => (i.zero, i.size)) = some (some z, t.cells)) (hz : z.cells.toList = zeroV t) : BuildS P T E t := by
  cases hi : P.info? E with
  | none => rw [hi] at h2; cases h2
  | some i => rw [hi] at h2; simp at h2; exact ⟨h1, i, z, hi, h2.1, h2.2, hz⟩

/-! what a function comes to: its text -/
abbrev w64 (z : Int) : Int := IntKind.wrap .i64 z
theorem chk_some {α : Type} {c : Bool} {a : Option α} {r : α} (h : (bif c then a else none) = some r) : c = true ∧ a = some r := by
  cases c with
  | true => exact ⟨rfl, h⟩
  | false => cases h
theorem bnd_some {α β : Type} {o : Option α} {f : α → Option β} {r : β} (h : o.bind f = some r) : ∃ x, o = some x ∧ f x = some r := Option.bind_eq_some_iff.1 h
theorem if_t {α : Type} {c : Bool} {a b : Option α} {r : α} (hc : c = true) (h : (bif c then a else b) = some r) : a = some r := by subst hc; exact h
theorem if_f {α : Type} {c : Bool} {a b : Option α} {r : α} (hc : c = false) (h : (bif c then a else b) = some r) : b = some r := by subst hc; exact h
theorem get_g {α : Type} [Inhabited α] {g : Bool} {o : Option α} (h : (!g || o.isSome) = true) (hg : g = true) : o = some (o.getD default) := by
  subst hg
  cases o with
  | none => simp at h
  | some x => rfl

/-- Rounds of an index. -/
def rng {S R : Type} (g : Int → S → Option (S ⊕ R)) : Nat → Int → S → Option (S ⊕ R)
  | 0, _, s => some (.inl s)
  | k + 1, i, s => (g i s).bind fun o => match o with
    | .inl s' => rng g k (i + 1) s'
    | .inr r => some (.inr r)
/-- One round as the machine goes it. -/
def rb {S R : Type} (n : Int) (g : Int → S → Option (S ⊕ R)) (p : Int × S) : Option ((Int × S) ⊕ (S ⊕ R)) :=
  bif decide (p.1 < n) then (g p.1 p.2).bind fun o => match o with
    | .inl s' => some (.inl (w64 (p.1 + 1), s'))
    | .inr r => some (.inr (.inr r))
  else some (.inr (.inl p.2))
theorem rng_lrun {S R : Type} {n : Int} {g : Int → S → Option (S ⊕ R)} (hn : n ≤ 9223372036854775807) : ∀ (k : Nat) (i : Int) (s : S) (o : S ⊕ R), (n - i).toNat = k → 0 ≤ i → rng g k i s = some o → lrun (rb n g) (k + 1) (i, s) = some o := by
  intro k
  induction k with
  | zero =>
    intro i s o hk h0 h
    simp only [rng, Option.some.injEq] at h
    subst h
    have : decide (i < n) = false := by simp; omega
    simp [lrun, rb, this]
  | succ k ih =>
    intro i s o hk h0 h
    simp only [rng] at h
    obtain ⟨q, hq, h⟩ := bnd_some h
    have hlt : decide (i < n) = true := by simp; omega
    have hw : w64 (i + 1) = i + 1 := wrap_i64 (by omega)
    rw [lrun, rb, hlt, cond_true, hq]
    cases q with
    | inl s' => simp only [Option.bind_some, hw]; exact ih (i + 1) s' o (by omega) (by omega) h
    | inr r => simpa using h

def joinQ {S R : Type} (X : Cx) (M : S → AS) (Qx : R → APost) : S ⊕ R → APost
  | .inl s, .normal, st => Wk X st (M s)
  | .inl _, _, _ => False
  | .inr _, .normal, _ => False
  | .inr r, e, st => Qx r e st

section
variable {P : Program} {N : Ev} {X : Cx} {Q : APost} {st : AS}
theorem awc_cond_t {c : Operand} {x y : Code} (hc : aev st.l c = some (.bool true)) (ht : AWC P N X x Q st) : AWC P N X (.cond c x y) Q st := awc_cond hc (fun _ => ht) (fun h => by cases h)
theorem awc_cond_f {c : Operand} {x y : Code} (hc : aev st.l c = some (.bool false)) (ht : AWC P N X y Q st) : AWC P N X (.cond c x y) Q st := awc_cond hc (fun h => by cases h) (fun _ => ht)

/-- What goes on in one way behind several. -/
theorem awc_join {S R : Type} {c d : Code} (M : S → AS) (Qx : R → APost) {p : Option (S ⊕ R)} {o : S ⊕ R} (hp : p = some o) (h1 : p = some o → AWC P N X c (joinQ X M Qx o) st) (h2 : ∀ s, o = .inl s → AWC P N X d Q (M s)) (h3 : ∀ r, o = .inr r → ∀ e st, e ≠ .normal → Qx r e st → Q e st) : AWC P N X (.seq c d) Q st := by
  refine awc_seq (awc_mono ?_ (h1 hp))
  intro e st' hq
  cases o with
  | inl s =>
    cases e with
    | normal => exact awc_wk hq (h2 s rfl)
    | _ => exact hq.elim
  | inr r =>
    cases e with
    | normal => exact hq.elim
    | ret => exact h3 r rfl _ _ (by simp) hq
    | exit i => exact h3 r rfl _ _ (by simp) hq
    | goto i => exact h3 r rfl _ _ (by simp) hq
    | panic i => exact h3 r rfl _ _ (by simp) hq
    | outgrown => exact h3 r rfl _ _ (by simp) hq

/-- A loop over an index. -/
theorem awc_range {S R : Type} {c : Code} (n : Int) (g : Int → S → Option (S ⊕ R)) (Inv : Int × S → AS) (Qx : S ⊕ R → APost) {s : S} {o : S ⊕ R} (hn : n ≤ 9223372036854775807) (hr : rng g n.toNat 0 s = some o) (hi : Wk X st (Inv (0, s))) (hQ : ∀ e st, Qx o e st → Q e st)
    (body : ∀ i s o, rb n g (i, s) = some o → AWC P N X c (loopQ X Inv Qx o) (Inv (i, s))) : AWC P N X (.loop c) Q st :=
  awc_loop Inv (rb n g) Qx (rng_lrun hn n.toNat 0 s o (by omega) (Int.le_refl _) hr) hi hQ fun p o h => body p.1 p.2 o h
theorem rb_t {S R : Type} {n i : Int} {g : Int → S → Option (S ⊕ R)} {s : S} {o : (Int × S) ⊕ (S ⊕ R)} (hc : decide (i < n) = true) (h : rb n g (i, s) = some o) : ∃ q, g i s = some q ∧ o = match q with
    | .inl s' => .inl (w64 (i + 1), s')
    | .inr r => .inr (.inr r) := by
  unfold rb at h
  simp only [hc, cond_true] at h
  obtain ⟨q, hq, h⟩ := bnd_some h
  refine ⟨q, hq, ?_⟩
  cases q with
  | inl s' => simp at h; exact h.symm
  | inr r => simp at h; exact h.symm
theorem rb_f {S R : Type} {n i : Int} {g : Int → S → Option (S ⊕ R)} {s : S} {o : (Int × S) ⊕ (S ⊕ R)} (hc : decide (i < n) = false) (h : rb n g (i, s) = some o) : o = .inr (.inl s) := by
  unfold rb at h
  simp only [hc, cond_false] at h
  simp at h; exact h.symm

/-- How long a slice is at most. -/
theorem awc_len {c : Code} {t : Nat} {ty : Ty} {x : List ty.den} (hx : st.l.look t = some (.sl ty x)) (k : x.length ≤ cap47 → AWC P N X c Q st) : AWC P N X c Q st := by
  intro fr w m ρ φ hc
  obtain ⟨v, h1, h2⟩ := hc.slots t _ hx
  simp only [RepA] at h2
  obtain ⟨_, _, _, _, h3, _⟩ := rc_slice h2
  exact k h3 fr w m ρ φ hc
theorem len_ok {n : Nat} (h : n ≤ cap47) : ((n : Nat) : Int) ≤ 9223372036854775807 := by
  have : cap47 = 140737488355328 := rfl
  omega

end
/-! a call that reads what the caller owns -/
section
variable {P : Program} {N : Ev} {X : Cx} {Q : APost} {st : AS}
variable {d : Nat} {T U T' : TypeId} {pos : String} {aft : Array Edge} {g : Option (Nat × Bool)} {x y : Operand}
theorem allM_nil {w : World} {b : Nat} {o : Obj} (h : w.heap[b]? = some o) (hc : ctl o = false) : allM w [] b = some o := by unfold allM; simp [h, Option.filter, hc]
theorem of_allM {w : World} {b : Nat} {o : Obj} (h : allM w [] b = some o) : w.heap[b]? = some o ∧ ctl o = false := by
  unfold allM at h
  simp only [List.map_nil, List.contains_nil, Bool.false_eq_true, if_false] at h
  have := Option.filter_eq_some_iff.1 h
  exact ⟨this.1, by simpa using this.2⟩
theorem bor_rep {fr : Fr} {w : World} {m : Mem} {ρ : List Value} {φ : List Frag} (hc : Conc X st fr w m ρ φ) {a : AV} {v : Value} (h : RepA m ρ a v) : RepA (allM w []) [] (coeA st.H [] 4 a) v := by
  have hle : m.le (allM w []) := fun b o hb => allM_nil (hc.sh.fz b o hb) (hc.sh.mctl b o hb)
  refine coe_rep (φ := φ) hle (fun i j h hp => by simp [posN] at hp) (fun i h _ hi => ?_) 4 h
  obtain ⟨f, hf, h1, hw⟩ := hc.obj hi
  exact ⟨f, h1, fun p hp hpc => allM_nil (hw p hp) hpc⟩
theorem bor_repL {fr : Fr} {w : World} {m : Mem} {ρ : List Value} {φ : List Frag} (hc : Conc X st fr w m ρ φ) : ∀ {as' : List AV} {vs : List Value}, RepL m ρ as' vs → RepL (allM w []) [] (as'.map (coeA st.H [] 4)) vs := by
  intro as'
  induction as' with
  | nil => intro vs h; cases vs with
    | nil => simp [RepL]
    | cons => simp [RepL] at h
  | cons a as' ih => intro vs h; cases vs with
    | nil => simp [RepL] at h
    | cons v vs => simp only [List.map_cons, RepL] at h ⊢; exact ⟨bor_rep hc h.1, ih h.2⟩
def flatT : AV → Bool
  | .tup vs => vs.all flatB
  | a => flatB a
theorem flatT_rep {m m' : Mem} {ρ ρ' : List Value} {a : AV} {v : Value} (hf : flatT a = true) (h : RepA m ρ a v) : RepA m' ρ' a v := by
  have hflat : ∀ {a : AV} {v : Value}, flatB a = true → RepA m ρ a v → RepA m' ρ' a v := by
    intro a v hf h
    cases a <;> simp [flatB] at hf <;> simpa only [RepA] using h
  have hL : ∀ {as' : List AV} {vs : List Value}, (as'.all flatB) = true → RepL m ρ as' vs → RepL m' ρ' as' vs := by
    intro as'
    induction as' with
    | nil => intro vs _ h; cases vs with
      | nil => simp [RepL]
      | cons => simp [RepL] at h
    | cons a as' ih => intro vs hf h; cases vs with
      | nil => simp [RepL] at h
      | cons v vs => simp only [List.all_cons, Bool.and_eq_true] at hf; simp only [RepL] at h ⊢; exact ⟨hflat hf.1 h.1, ih hf.2 h.2⟩
  cases a with
  | tup vs => simp only [flatT] at hf; simp only [RepA] at h ⊢; obtain ⟨us, h1, h2⟩ := h; exact ⟨us, h1, hL hf h2⟩
  | int => exact hflat hf h
  | bool => exact hflat hf h
  | str => exact hflat hf h
  | _ => simp [flatT, flatB] at hf
/-- A call that owns nothing, of arguments seen more weakly. -/
theorem le_allM {e w : World} {m : Mem} {f : Frag} (h : SH e w m f) : m.le (allM w []) := fun b o hb => allM_nil (h.fz b o hb) (h.mctl b o hb)
theorem av_callB {f : FuncId} {xs : List Operand} {as' bs rs : List AV} {ts : Array TypeId} {r : AV} (hr : RunsM X.m P f bs [] fun r H' => r = rs ∧ H' = []) (hf : Enters P f) (hx : xs.map (aev st.l) = as'.map some) (hbs : cvL bs (as'.map (coeA st.H [] 4))) (hrs : tupA rs = r) (hfl : flatT r = true) (hN : Nat.blt d N.n = true := by rfl) :
    AOpV P N X ⟨some d, .call ⟨.value (.func f), xs.toArray, ts⟩, U, pos, aft, g⟩ r st := by
  intro Q fr w m ρ φ hc
  obtain ⟨vs, h1, h2⟩ := hc.evl hx
  subst hrs
  have hv : RepL (allM w []) [] bs vs := cvL_rep hbs (bor_repL hc h2)
  have hsh : SH X.e w (allM w []) [] := ⟨hc.sh.os, hc.sh.tape, hc.sh.output, fun b o hb => (of_allM hb).1, fun p hp => by simp at hp, by simp, fun p hp => by simp at hp, fun p hp => by simp at hp, fun b o hb => (of_allM hb).2, hc.sh.esz⟩
  have hret : Ret P f vs.toArray w fun v w' => Below w.heap.size w w' ∧ RepA m ρ (tupA rs) v := by
    refine Calls.mono (hr X.e w _ [] [] [] vs (hc.mle.trans (le_allM hc.sh)) hv ⟨rfl, rfl, fun i o h f hi => by simp at hi⟩ (by simpa using hsh)) ?_
    rintro e w' ⟨v, he, hd, rs', H', m', ρ', φ', ⟨rfl, rfl⟩, hm, _, _, ho, hs, us, hu, rfl⟩
    have hφ : φ' = [] := List.eq_nil_of_length_eq_zero ho.nφ
    subst hφ
    exact ⟨_, he, hd, below_all hsh (by simpa using hs) hm hd.2 hd.1, flatT_rep hfl (rep_tup hu)⟩
  refine op_call hf h1 hret hN ?_
  rintro v w' ⟨hb, h5⟩
  exact ⟨d, v, rfl, rfl, hb, m, Mem.le_refl _, hc.sh.ext hb, h5⟩
/-! a function value that came in -/
/-- What holds of a function value that came in: that it is one of the program's. -/
structure FnIn (P : Program) (f : FuncId) (caps : List AV) : Prop where
  ent : Enters P f
theorem ret_pure0 {f : FuncId} {as' rs : List AV} {fr : Fr} {w : World} {m : Mem} {ρ : List Value} {φ : List Frag} {vs : List Value} (hr : RunsM X.m P f as' [] fun r H' => r = rs ∧ H' = []) (hc : Conc X st fr w m ρ φ) (hv : RepL m [] as' vs) :
    Ret P f vs.toArray w fun v w' => Below w.heap.size w w' ∧ ∃ m', m.le m' ∧ SH X.e w' m' (φ.flatten ++ X.F) ∧ RepA m' ρ (tupA rs) v := by
  obtain ⟨h1, h2⟩ := sh_all hc.sh
  have := hr X.e w _ [] [] (φ.flatten ++ X.F) vs (hc.mle.trans h2) (RepL.mono h2 (fun _ _ h => h) _ hv) ⟨rfl, rfl, fun i o h f hi => by simp at hi⟩ (by simpa using h1)
  refine Calls.mono this ?_
  rintro e w' ⟨v, he, hd, rs', H', m', ρ', φ', ⟨rfl, rfl⟩, hm, _, _, ho, hs, us, hu, rfl⟩
  have hρ : ρ' = [] := List.eq_nil_of_length_eq_zero ho.nρ
  have hφ : φ' = [] := List.eq_nil_of_length_eq_zero ho.nφ
  subst hρ hφ
  have hs' : SH X.e w' m' (φ.flatten ++ X.F) := by simpa using hs
  exact ⟨_, he, hd, below_all h1 hs' hm hd.2 hd.1, m', h2.trans hm, hs', RepA.mono (Mem.le_refl _) (fun i h hi => by simp at hi) _ (rep_tup hu)⟩
theorem rep_clo_fn {m : Mem} {ρ : List Value} {f : FuncId} {caps : List AV} {v : Value} (h : RepA m ρ (.clo (.fn f [] caps)) v) : ∃ ws : List Value, v = .func (.func f) #[] ws.toArray ∧ RepL m [] caps ws := by
  simp only [RepA] at h
  obtain ⟨us, ws, rfl, h5, h6⟩ := h
  cases us with
  | nil => exact ⟨ws, rfl, h6⟩
  | cons => simp [RepL] at h5
theorem av_callq {f : FuncId} {fx : Operand} {caps : List AV} {xs : List Operand} {as' rs : List AV} {ts : Array TypeId} {r : AV} (hfx : aev st.l fx = some (.clo (.fn f [] caps))) (hr : RunsM X.m P f (as' ++ caps) [] fun r H' => r = rs ∧ H' = []) (hf : FnIn P f caps) (hx : xs.map (aev st.l) = as'.map some) (hrs : tupA rs = r) (hcl : renL [] as' = as') (hN : Nat.blt d N.n = true := by rfl) :
    AOpV P N X ⟨some d, .call ⟨.value fx, xs.toArray, ts⟩, U, pos, aft, g⟩ r st := by
  intro Q fr w m ρ φ hc
  obtain ⟨vs, h1, h2⟩ := hc.evl hx
  obtain ⟨v, h3, h4⟩ := hc.ev hfx
  obtain ⟨ws, rfl, h6⟩ := rep_clo_fn h4
  subst hrs
  have h2' : RepL m [] as' vs := by
    refine renL_fwd (σ := []) (ρ := ρ) (fun i j u hi _ => by simp at hi) as' ?_
    rw [hcl]; exact h2
  refine op_callv (args := (vs ++ ws).toArray) h3 hf.ent h1 (by simp) (ret_pure0 hr hc (h2'.app h6)) hN ?_
  rintro v w' ⟨hb, m', h7, h8, h9⟩
  exact ⟨d, v, rfl, rfl, hb, m', h7, h8, h9⟩
end
end Go.Ab


set_option linter.unusedVariables false
set_option linter.unusedSimpArgs false
namespace Go.Ab
open Go.RowKit Go.Shelf Go.Proofs Go.Eng

/-! regions whose order is drawn, with a tail that waits for the rest by way of others -/
/-- In the tail each operation waits for the one ahead. -/
def Consec (m : Nat) (ops : List Oper) : Prop := ∀ (i : Nat) (o : Oper), m < i → ops[i]? = some o → ∃ e ∈ o.after, Region.binds .any e = true ∧ e.on = i - 1
/-- What is listed has what it waits for listed. -/
def Shut (ops : List Oper) (listed : Array Bool) : Prop := ∀ (i : Nat) (o : Oper), ops[i]? = some o → listed[i]? = some true → ∀ e ∈ o.after, Region.binds .any e = true → listed[e.on]? = some true
theorem shut_set {ops : List Oper} {listed : Array Bool} (hcl : Shut ops listed) (hs : listed.size = ops.length) {i : Nat} {o : Oper} (ho : ops[i]? = some o) (hrd : ∀ e ∈ o.after, Region.binds .any e = true → listed[e.on]? = some true) : Shut ops (listed.setIfInBounds i true) := by
  have hset : ∀ (j : Nat), listed[j]? = some true → (listed.setIfInBounds i true)[j]? = some true := by
    intro j hj
    by_cases e : i = j
    · subst e; rw [Array.getElem?_setIfInBounds_self_of_lt (Array.getElem?_eq_some_iff.1 hj).1]
    · rw [Array.getElem?_setIfInBounds_ne e]; exact hj
  intro j o' ho' hj e he hb
  by_cases e1 : i = j
  · subst e1
    rw [ho] at ho'; cases ho'
    exact hset _ (hrd e he hb)
  · rw [Array.getElem?_setIfInBounds_ne e1] at hj
    exact hset _ (hcl j o' ho' hj e he hb)

section
variable {P : Program} {N : Ev} {Q : Post} {l : Fr} {w : World}
theorem ready_tail2 {ops : List Oper} {m : Nat} (hch : Consec m ops) (hback : ∀ (i : Nat) (o : Oper), ops[i]? = some o → ∀ e ∈ o.after, Region.binds .any e = true → e.on < i) {listed : Array Bool} (hs : listed.size = ops.length) {k : Nat} (hk : m ≤ k)
    (hl : ∀ j, j < ops.length → listed[j]? = some (decide (j < k))) : Region.ready .any ops.toArray listed = if k < ops.length then [k] else [] := by
  have hmem : ∀ i, i ∈ Region.ready .any ops.toArray listed ↔ i < ops.length ∧ i = k := by
    intro i
    simp only [Region.ready, List.mem_filter, List.mem_range, List.size_toArray]
    constructor
    · rintro ⟨hi, h⟩
      refine ⟨hi, ?_⟩
      rw [Bool.and_eq_true] at h
      obtain ⟨h1, h2⟩ := h
      have ho0 : ops[i]? = some (ops[i]'hi) := List.getElem?_eq_getElem hi
      have ho : ops.toArray[i]? = some (ops[i]'hi) := by simp
      have hik : ¬ i < k := by
        intro hik
        simp [Array.getD_eq_getD_getElem?, hl i hi, hik] at h1
      rcases Nat.lt_or_ge k i with h3 | h3
      · exfalso
        obtain ⟨e, he, hb, hon⟩ := hch i _ (by omega) ho0
        simp only [ho, Option.map_some, Option.getD_some, Array.all_eq_true'] at h2
        have := h2 e he
        have hkl : i - 1 < ops.length := by omega
        have hnk : ¬ i - 1 < k := by omega
        simp [hb, hon, Array.getD_eq_getD_getElem?, hl (i - 1) hkl] at this
        omega
      · omega
    · rintro ⟨hi, rfl⟩
      refine ⟨hi, ?_⟩
      have ho0 : ops[i]? = some (ops[i]'hi) := List.getElem?_eq_getElem hi
      have ho : ops.toArray[i]? = some (ops[i]'hi) := by simp
      rw [Bool.and_eq_true]
      refine ⟨by simp [Array.getD_eq_getD_getElem?, hl i hi], ?_⟩
      simp only [ho, Option.map_some, Option.getD_some, Array.all_eq_true']
      intro e he
      by_cases hb : Region.binds .any e = true
      · have hlt := hback i _ ho0 e he hb
        simp [hb, Array.getD_eq_getD_getElem?, hl e.on (by omega), hlt]
      · simp [hb]
  have hnd : (Region.ready .any ops.toArray listed).Nodup := by
    unfold Region.ready
    exact List.Pairwise.filter _ List.nodup_range
  generalize Region.ready .any ops.toArray listed = r at hmem hnd
  match r, hmem, hnd with
  | [], hmem, _ =>
    by_cases h : k < ops.length
    · have := (hmem k).2 ⟨h, rfl⟩; cases this
    · rw [if_neg h]
  | [x], hmem, _ =>
    have := (hmem x).1 (by simp)
    obtain ⟨h1, rfl⟩ := this
    rw [if_pos h1]
  | x :: y :: r, hmem, hnd =>
    have h1 := (hmem x).1 (by simp)
    have h2 := (hmem y).1 (by simp)
    have hxy : x = y := by omega
    subst hxy
    simp at hnd

theorem tail_any2 {ops : List Oper} {m : Nat} (hch : Consec m ops) (hback : ∀ (i : Nat) (o : Oper), ops[i]? = some o → ∀ e ∈ o.after, Region.binds .any e = true → e.on < i) :
    ∀ (fuel k : Nat) (listed : Array Bool) (a : Act) (W : World), m ≤ k → k + fuel ≥ ops.length → k ≤ ops.length → listed.size = ops.length → (∀ j, j < ops.length → listed[j]? = some (decide (j < k))) →
      wpListIn (FW N.ro) 0 P ops.toArray (up N Q) (ops.drop k) a W → wpAnyIn (FW N.ro) 0 P .any ops.toArray (up N Q) fuel listed a W := by
  intro fuel
  induction fuel with
  | zero =>
    intro k listed a W hmk hkf hkl hs hl h
    have hk : k = ops.length := by omega
    subst hk
    rw [List.drop_length] at h
    refine ⟨?_, h⟩
    rw [ready_tail2 hch hback hs hmk hl, if_neg (by omega)]
  | succ fuel ih =>
    intro k listed a W hmk hkf hkl hs hl h
    by_cases hk : k < ops.length
    · refine ⟨fun hr => ?_, ?_⟩
      · rw [ready_tail2 hch hback hs hmk hl, if_pos hk] at hr; cases hr
      · intro i hi
        rw [ready_tail2 hch hback hs hmk hl, if_pos hk] at hi
        simp only [List.mem_singleton] at hi
        subst hi
        rw [List.drop_eq_getElem_cons hk] at h
        have ho : ops.toArray[i]? = some (ops[i]'hk) := by simp [List.getElem?_eq_getElem hk]
        have hl' : ∀ j, j < ops.length → (listed.setIfInBounds i true)[j]? = some (decide (j < i + 1)) := by
          intro j hj
          by_cases e : i = j
          · subst e
            rw [Array.getElem?_setIfInBounds_self_of_lt (by omega)]; simp
          · rw [Array.getElem?_setIfInBounds_ne e, hl j hj]
            congr 1
            by_cases h1 : j < i
            · simp [h1]; omega
            · simp [h1]; omega
        have hnext : ∀ a' W', wpListIn (FW N.ro) 0 P ops.toArray (up N Q) (ops.drop (i + 1)) a' W' → wpAnyIn (FW N.ro) 0 P .any ops.toArray (up N Q) fuel (listed.setIfInBounds i true) a' W' :=
          fun a' W' h' => ih (i + 1) _ a' W' (by omega) (by omega) (by omega) (by simp [hs]) hl' h'
        unfold wpOpIn
        rw [ho]
        simp only []
        unfold wpListIn at h
        split
        · rename_i hw
          rw [if_pos hw] at h
          exact Oper.wpIn_mono hnext h
        · rename_i hw
          rw [if_neg hw] at h
          exact ⟨h.1, hnext _ _ h.2⟩
    · have hk' : k = ops.length := by omega
      subst hk'
      rw [List.drop_length] at h
      refine ⟨fun _ => h, ?_⟩
      intro i hi
      rw [ready_tail2 hch hback hs hmk hl, if_neg hk] at hi
      cases hi

def consecOk (m : Nat) (ops : List Oper) : Bool := (ops.zipIdx).all fun (o, i) => Nat.ble i m || o.after.toList.any fun e => Region.binds .any e && Nat.beq e.on (i - 1)
theorem consec_of {m : Nat} {ops : List Oper} (h : consecOk m ops = true) : Consec m ops := by
  intro i o hi ho
  simp only [consecOk, List.all_eq_true] at h
  have := h (o, i) (by rw [List.mem_zipIdx_iff_getElem?]; simpa using ho)
  simp only [Bool.or_eq_true, List.any_eq_true, Bool.and_eq_true] at this
  rcases this with h1 | ⟨e, he, hb, hon⟩
  · have := Nat.le_of_ble_eq_true h1; omega
  · exact ⟨e, Array.mem_toList_iff.1 he, hb, Nat.eq_of_beq_eq_true hon⟩
end
section
variable {P : Program} {N : Ev} {X : Cx} {Q : APost} {st : AS}
variable {d : Nat} {T U T' : TypeId} {pos : String} {aft : Array Edge} {g : Option (Nat × Bool)} {x y : Operand}
/-! a slice against nil: what a list does not tell -/
end
end Go.Ab


set_option linter.unusedVariables false
set_option linter.unusedSimpArgs false
namespace Go.Ab
open Go.RowKit Go.Shelf Go.Proofs Go.Eng

/-! calls that turn what is handed to them -/
theorem nodup_ne {α : Type} {l : List α} (h : l.Nodup) {i j : Nat} (hij : i < j) (hj : j < l.length) : l[i]? ≠ l[j]? := by
  rw [List.getElem?_eq_getElem (by omega), List.getElem?_eq_getElem hj]
  have := List.pairwise_iff_getElem.1 h i j (by omega) hj hij
  simpa using this
theorem nodup_of_ne {α : Type} {l : List α} (h : ∀ i j, i < j → j < l.length → l[i]? ≠ l[j]?) : l.Nodup := by
  refine List.pairwise_iff_getElem.2 fun i j hi hj hij => ?_
  have := h i j hij hj
  rw [List.getElem?_eq_getElem hi, List.getElem?_eq_getElem hj] at this
  simpa using this
theorem flatMap_eq {α β : Type} {l : List α} {f g : α → List β} (h : ∀ a ∈ l, f a = g a) : l.flatMap f = l.flatMap g := by
  induction l with
  | nil => rfl
  | cons a l ih => rw [List.flatMap_cons, List.flatMap_cons, h a (by simp), ih (fun b hb => h b (by simp [hb]))]
def updH : Nat → List Nat → List AO → AH → AH
  | _, [], _, H => H
  | _, _, [], H => H
  | k, i :: σ, o :: os, H => (i, o) :: updH k σ os H
/-- The numbers behind n. -/
def fromN : Nat → Nat → List Nat
  | _, 0 => []
  | n, k + 1 => n :: fromN (n + 1) k
theorem fromN_get : ∀ {k n i : Nat}, i < k → (fromN n k)[i]? = some (n + i) := by
  intro k
  induction k with
  | zero => intro n i h; omega
  | succ k ih =>
    intro n i h
    cases i with
    | zero => simp [fromN]
    | succ i => simp only [fromN, List.getElem?_cons_succ]; rw [ih (by omega)]; congr 1; omega
theorem fromN_len : ∀ {k n : Nat}, (fromN n k).length = k := by
  intro k
  induction k with
  | zero => intro n; rfl
  | succ k ih => intro n; simp [fromN, ih]
theorem updH_get : ∀ {σ : List Nat} {os : List AO} {H : AH} {k : Nat}, σ.Nodup → os.length = σ.length → (∀ (j i : Nat) (o : AO), σ[j]? = some i → os[j]? = some o → AH.get (updH k σ os H) i = o) ∧ (∀ i, i ∉ σ → AH.get (updH k σ os H) i = AH.get H i) := by
  intro σ
  induction σ with
  | nil => intro os H k _ _; exact ⟨fun j i o h => by simp at h, fun i _ => rfl⟩
  | cons a σ ih =>
    intro os H k hn hl
    cases os with
    | nil => simp at hl
    | cons o os =>
      rw [List.nodup_cons] at hn
      obtain ⟨h1, h2⟩ := ih (H := H) (k := k) hn.2 (by simpa using hl)
      refine ⟨fun j i q hj hq => ?_, fun i hi => ?_⟩
      · simp only [updH, AH.get_cons]
        cases j with
        | zero => simp at hj hq; subst hj hq; simp
        | succ j =>
          have hj' : σ[j]? = some i := by simpa using hj
          rw [if_neg (by intro e; rw [e] at hn; exact hn.1 (List.mem_of_getElem? hj'))]
          exact h1 j i q hj' (by simpa using hq)
      · simp only [List.mem_cons, not_or] at hi
        simp only [updH, AH.get_cons]
        rw [if_neg (fun e => hi.1 e.symm)]
        exact h2 i hi.2

section
variable {P : Program} {N : Ev} {X : Cx} {Q : APost} {st : AS}
variable {d : Nat} {T U T' : TypeId} {pos : String} {aft : Array Edge} {g : Option (Nat × Bool)} {x y : Operand}

/-- Behind a call: the objects σ turned, new ones behind them. -/
theorem conc_call {fr : Fr} {w w' : World} {m m' : Mem} {ρ ρ1' : List Value} {φ φ1' : List Frag} {σ : List Nat} {H' : List AO} {v : Value} {av : AV} (hc : Conc X st fr w m ρ φ) (hnd : σ.Nodup) (hlt : ∀ i ∈ σ, i < st.n) (hm : m.le m') (hk : σ.length ≤ H'.length)
    (hpre : ∀ (i j : Nat) (h : Value), σ[i]? = some j → ρ[j]? = some h → ρ1'[i]? = some h) (ho : OsRep m' ρ1' H' φ1')
    (hs : SH X.e w' m' (φ1'.flatten ++ (((List.range st.n).filter fun i => !σ.contains i).flatMap (fun i => φ.getD i []) ++ X.F)))
    (hav : ∀ ρ', (∀ (i : Nat) (u : Value), ρ1'[i]? = some u → ∃ j, (σ ++ fromN st.n (H'.length - σ.length))[i]? = some j ∧ ρ'[j]? = some u) → RepA m' ρ' av v) :
    ∃ ρ' φ', Conc X ⟨(d, av) :: st.l, updH 0 (σ ++ fromN st.n (H'.length - σ.length)) (H'.map (AO.ren (σ ++ fromN st.n (H'.length - σ.length)))) st.H, st.n + (H'.length - σ.length)⟩ ((d, v) :: fr) w' m' ρ' φ' := by
  obtain ⟨τ, hτ⟩ : ∃ τ, τ = σ ++ fromN st.n (H'.length - σ.length) := ⟨_, rfl⟩
  have hτl : τ.length = H'.length := by rw [hτ, List.length_append, fromN_len]; omega
  have hfr : ∀ i, i ∈ fromN st.n (H'.length - σ.length) ↔ st.n ≤ i ∧ i < st.n + (H'.length - σ.length) := by
    intro i
    rw [List.mem_iff_getElem?]
    constructor
    · rintro ⟨j, hj⟩
      have hjl := (List.getElem?_eq_some_iff.1 hj).1
      rw [fromN_len] at hjl
      rw [fromN_get hjl] at hj
      cases hj; omega
    · rintro ⟨h1, h2⟩
      exact ⟨i - st.n, by rw [fromN_get (by omega)]; congr 1; omega⟩
  have hfnd : (fromN st.n (H'.length - σ.length)).Nodup := by
    refine nodup_of_ne fun i j hij hjl => ?_
    rw [fromN_len] at hjl
    rw [fromN_get (by omega), fromN_get hjl]
    intro e; simp at e; omega
  have hτn : τ.Nodup := by
    rw [hτ, List.nodup_append]
    refine ⟨hnd, hfnd, fun a ha b hb e => ?_⟩
    subst e
    have := hlt a ha
    have := ((hfr a).1 hb).1
    omega
  have hτlt : ∀ i ∈ τ, i < st.n + (H'.length - σ.length) := by
    intro i hi
    rw [hτ, List.mem_append] at hi
    rcases hi with hi | hi
    · have := hlt i hi; omega
    · exact ((hfr i).1 hi).2
  -- the handles, the fragments
  let pos : Nat → Option Nat := posN τ
  let ρ' : List Value := (List.range (st.n + (H'.length - σ.length))).map fun i => match posN τ i with
    | some j => ρ1'.getD j undef
    | none => ρ.getD i undef
  let φ' : List Frag := (List.range (st.n + (H'.length - σ.length))).map fun i => match posN τ i with
    | some j => φ1'.getD j []
    | none => φ.getD i []
  have posτ : ∀ {j i : Nat}, τ[j]? = some i → posN τ i = some j := by
    intro j i hj
    cases hp : posN τ i with
    | none => exact absurd (List.mem_of_getElem? hj) (posN_none hp)
    | some q =>
      have h1 := posN_get hp
      by_cases e : q = j
      · rw [e]
      · exfalso
        rcases Nat.lt_or_ge q j with h | h
        · exact nodup_ne hτn h (List.getElem?_eq_some_iff.1 hj).1 (by rw [h1, hj])
        · exact nodup_ne hτn (show j < q by omega) (List.getElem?_eq_some_iff.1 h1).1 (by rw [h1, hj])
  have hρτ : ∀ {j i : Nat} {u : Value}, τ[j]? = some i → ρ1'[j]? = some u → ρ'[i]? = some u := by
    intro j i u hj hu
    simp only [ρ', List.getElem?_map, List.getElem?_range (hτlt i (List.mem_of_getElem? hj)), Option.map_some, posτ hj, List.getD_eq_getElem?_getD, hu, Option.getD_some]
  have hρold : ∀ (i : Nat) (h : Value), ρ[i]? = some h → ρ'[i]? = some h := by
    intro i h hi
    have hil : i < st.n := by rw [← hc.nρ]; exact (List.getElem?_eq_some_iff.1 hi).1
    simp only [ρ', List.getElem?_map, List.getElem?_range (show i < st.n + (H'.length - σ.length) by omega), Option.map_some]
    cases hp : posN τ i with
    | none => simp [List.getD_eq_getElem?_getD, hi]
    | some j =>
      have h1 := posN_get hp
      have hjσ : j < σ.length := by
        rcases Nat.lt_or_ge j σ.length with h2 | h2
        · exact h2
        · exfalso
          rw [hτ, List.getElem?_append_right h2] at h1
          have := ((hfr i).1 (List.mem_of_getElem? h1)).1
          omega
      rw [hτ, List.getElem?_append_left hjσ] at h1
      have := hpre j i h h1 hi
      simp [List.getD_eq_getElem?_getD, this]
  have hbwd : ∀ (i : Nat) (u : Value), ρ1'[i]? = some u → ∃ j, τ[i]? = some j ∧ ρ'[j]? = some u := by
    intro i u hi
    have hil : i < τ.length := by rw [hτl, ← ho.nρ]; exact (List.getElem?_eq_some_iff.1 hi).1
    exact ⟨τ[i], List.getElem?_eq_getElem hil, hρτ (List.getElem?_eq_getElem hil) hi⟩
  refine ⟨ρ', φ', hc.mle.trans hm, fun i h hi => hρold i h (hc.pre i h hi), by simp [ρ'], by simp [φ'], ?_, ?_, ?_⟩
  · intro t b hb
    simp only [AFr.look_cons] at hb
    rw [Fr.look_cons]
    split
    · rename_i e; rw [if_pos e] at hb; cases hb; exact ⟨v, rfl, hav ρ' (by rw [← hτ]; exact hbwd)⟩
    · rename_i e; rw [if_neg e] at hb
      obtain ⟨u, h1, h2⟩ := hc.slots t b hb
      exact ⟨u, h1, RepA.mono hm hρold b h2⟩
  · intro i h f hi hf
    rw [← hτ]
    have hil : i < st.n + (H'.length - σ.length) := by
      have := (List.getElem?_eq_some_iff.1 hi).1
      simpa [ρ'] using this
    obtain ⟨g1, g2⟩ := updH_get (σ := τ) (os := H'.map (AO.ren τ)) (H := st.H) (k := 0) hτn (by simp [hτl])
    simp only [ρ', List.getElem?_map, List.getElem?_range hil, Option.map_some, Option.some.injEq] at hi
    simp only [φ', List.getElem?_map, List.getElem?_range hil, Option.map_some, Option.some.injEq] at hf
    cases hp : posN τ i with
    | some j =>
      rw [hp] at hi hf
      simp only at hi hf
      have h1 := posN_get hp
      have hjl : j < H'.length := by rw [← hτl]; exact (List.getElem?_eq_some_iff.1 h1).1
      have hH : H'[j]? = some (H'[j]'hjl) := List.getElem?_eq_getElem hjl
      have h2 : ρ1'[j]? = some h := by
        have : ρ1'[j]? = some (ρ1'[j]'(by rw [ho.nρ]; exact hjl)) := List.getElem?_eq_getElem _
        rw [List.getD_eq_getElem?_getD, this] at hi
        rw [this]; simpa using hi
      have h3 : φ1'[j]? = some f := by
        have : φ1'[j]? = some (φ1'[j]'(by rw [ho.nφ]; exact hjl)) := List.getElem?_eq_getElem _
        rw [List.getD_eq_getElem?_getD, this] at hf
        rw [this]; simpa using hf
      rw [g1 j i _ h1 (by rw [List.getElem?_map, hH]; rfl)]
      exact (ho.at_ j _ h f hH h2 h3).bwd hbwd
    | none =>
      rw [hp] at hi hf
      simp only at hi hf
      have hni := posN_none hp
      rw [g2 i hni]
      have hin : i < st.n := by
        rcases Nat.lt_or_ge i st.n with h1 | h1
        · exact h1
        · exfalso
          apply hni
          rw [hτ, List.mem_append]
          exact .inr ((hfr i).2 ⟨h1, hil⟩)
      have h2 : ρ[i]? = some h := by
        have : ρ[i]? = some (ρ[i]'(by rw [hc.nρ]; exact hin)) := List.getElem?_eq_getElem _
        rw [List.getD_eq_getElem?_getD, this] at hi
        rw [this]; simpa using hi
      have h3 : φ[i]? = some f := by
        have : φ[i]? = some (φ[i]'(by rw [hc.nφ]; exact hin)) := List.getElem?_eq_getElem _
        rw [List.getD_eq_getElem?_getD, this] at hf
        rw [this]; simpa using hf
      exact (hc.objs i h f h2 h3).mono hm hρold
  · refine hs.perm ?_
    rw [← List.append_assoc]
    refine List.Perm.append_right _ ?_
    have h1 : φ'.flatten = (List.range (st.n + (H'.length - σ.length))).flatMap fun i => match posN τ i with
        | some j => φ1'.getD j []
        | none => φ.getD i [] := by rw [List.flatMap_def]
    rw [h1]
    refine List.Perm.symm (((range_split hτn hτlt).flatMap_right _).trans ?_)
    rw [List.flatMap_append]
    have h2 : (τ.flatMap fun i => match posN τ i with
        | some j => φ1'.getD j []
        | none => φ.getD i []) = φ1'.flatten := by
      rw [flatten_range, ho.nφ, ← hτl]
      have : τ = (List.range τ.length).map fun j => τ.getD j 0 := by
        apply List.ext_getElem?
        intro j
        rw [List.getElem?_map]
        rcases Nat.lt_or_ge j τ.length with h | h
        · rw [List.getElem?_range h, Option.map_some, List.getD_eq_getElem?_getD, List.getElem?_eq_getElem h]; rfl
        · rw [List.getElem?_eq_none h, List.getElem?_eq_none (by simpa using h)]; rfl
      have this2 : ∀ g : Nat → Frag, τ.flatMap g = ((List.range τ.length).map fun j => τ.getD j 0).flatMap g := fun g => by rw [← this]
      rw [this2, List.flatMap_map]
      refine flatMap_eq fun j hj => ?_
      rw [List.mem_range] at hj
      have h3 : τ[j]? = some (τ.getD j 0) := by rw [List.getD_eq_getElem?_getD, List.getElem?_eq_getElem hj]; rfl
      rw [posτ h3]
    rw [h2]
    refine List.Perm.append_left _ ?_
    -- what no name of the call's reaches
    have h4 : ((List.range (st.n + (H'.length - σ.length))).filter fun i => !τ.contains i) = (List.range st.n).filter fun i => !σ.contains i := by
      rw [List.range_add, List.filter_append]
      have h5 : ((List.range (H'.length - σ.length)).map (st.n + ·)).filter (fun i => !τ.contains i) = [] := by
        rw [List.filter_eq_nil_iff]
        intro a ha
        obtain ⟨q, hq, rfl⟩ := List.mem_map.1 ha
        rw [List.mem_range] at hq
        simp only [List.contains_eq_mem, Bool.not_eq_true', decide_eq_false_iff_not, Decidable.not_not]
        rw [hτ, List.mem_append]
        exact .inr ((hfr _).2 ⟨by omega, by omega⟩)
      rw [h5, List.append_nil]
      refine List.filter_congr fun a ha => ?_
      rw [List.mem_range] at ha
      congr 1
      simp only [List.contains_eq_mem]
      rw [hτ]
      simp only [List.mem_append, decide_eq_decide]
      constructor
      · rintro (h | h)
        · exact h
        · have := ((hfr a).1 h).1; omega
      · exact .inl
    rw [h4]
    refine List.Perm.of_eq (flatMap_eq fun i hi => ?_)
    simp only [List.mem_filter, List.mem_range, Bool.not_eq_true', List.contains_eq_mem, decide_eq_false_iff_not] at hi
    have : posN τ i = none := by
      cases hp : posN τ i with
      | none => rfl
      | some j =>
        have h5 := List.mem_of_getElem? (posN_get hp)
        rw [hτ, List.mem_append] at h5
        rcases h5 with h5 | h5
        · exact absurd h5 hi.2
        · have := ((hfr i).1 h5).1; omega
    rw [this]

theorem ret_own {f : FuncId} {as1 : List AV} {H1 : List AO} {R : List AV → List AO → Prop} {σ : List Nat} {fr : Fr} {w : World} {m : Mem} {ρ : List Value} {φ : List Frag} {vs : List Value} (hr : RunsM X.m P f as1 H1 R) (hc : Conc X st fr w m ρ φ) (hσ : (nodupB σ && σ.all fun i => Nat.blt i st.n) = true) (hH : σ.map st.H.get = H1.map (AO.ren σ)) (hv : RepL m ρ (renL σ as1) vs) :
    Ret P f vs.toArray w fun v w' => ∃ rs H' m' ρ1' φ1', R rs H' ∧ m.le m' ∧ σ.length ≤ H'.length ∧ (∀ (i j : Nat) (h : Value), σ[i]? = some j → ρ[j]? = some h → ρ1'[i]? = some h) ∧ OsRep m' ρ1' H' φ1' ∧
      SH X.e w' m' (φ1'.flatten ++ (((List.range st.n).filter fun i => !σ.contains i).flatMap (fun i => φ.getD i []) ++ X.F)) ∧ ∃ us, RepL m' ρ1' rs us ∧ v = tupleOf us := by
  rw [Bool.and_eq_true] at hσ
  have hnd := nodup_of hσ.1
  have hlt : ∀ i ∈ σ, i < st.n := by
    intro i hi
    have := hσ.2
    rw [List.all_eq_true] at this
    simpa using this i hi
  have hlen : σ.length = H1.length := by simpa using congrArg List.length hH
  let ρ1 : List Value := σ.map fun i => ρ.getD i undef
  let φ1 : List Frag := σ.map fun i => φ.getD i []
  have hfwd : ∀ (i j : Nat) (u : Value), σ[i]? = some j → ρ[j]? = some u → ρ1[i]? = some u := by
    intro i j u hi hj
    simp only [ρ1, List.getElem?_map, hi, Option.map_some, List.getD_eq_getElem?_getD, hj, Option.getD_some]
  have hsh : SH X.e w m (φ1.flatten ++ (((List.range st.n).filter fun i => !σ.contains i).flatMap (fun i => φ.getD i []) ++ X.F)) := by
    refine hc.sh.perm ?_
    rw [← List.append_assoc]
    refine List.Perm.append_right _ ?_
    rw [flatten_range, hc.nφ]
    refine ((range_split hnd hlt).flatMap_right _).trans ?_
    rw [List.flatMap_append]
    refine List.Perm.of_eq ?_
    show _ = φ1.flatten ++ _
    rw [show φ1.flatten = σ.flatMap fun i => φ.getD i [] from flatMap_getD φ σ]
  have hos : OsRep m ρ1 H1 φ1 := by
    refine ⟨by simp [ρ1, hlen], by simp [φ1, hlen], fun i o h f hi hh hf => ?_⟩
    have hil : i < σ.length := by rw [hlen]; exact (List.getElem?_eq_some_iff.1 hi).1
    have hσi : σ[i]? = some (σ[i]'hil) := List.getElem?_eq_getElem hil
    have hn := hlt _ (List.getElem_mem hil)
    have e1 := congrArg (fun l => l[i]?) hH
    simp only [List.getElem?_map, hσi, hi, Option.map_some, Option.some.injEq] at e1
    have hρi : ρ[σ[i]'hil]? = some (ρ[σ[i]'hil]'(by rw [hc.nρ]; exact hn)) := List.getElem?_eq_getElem _
    have hφi : φ[σ[i]'hil]? = some (φ[σ[i]'hil]'(by rw [hc.nφ]; exact hn)) := List.getElem?_eq_getElem _
    have h1 := hc.objs _ _ _ hρi hφi
    rw [e1] at h1
    have h2 := h1.fwd hfwd
    have eh : h = ρ[σ[i]'hil]'(by rw [hc.nρ]; exact hn) := by
      have := hfwd i _ _ hσi hρi
      rw [this] at hh; exact (Option.some.inj hh).symm
    have ef : f = φ[σ[i]'hil]'(by rw [hc.nφ]; exact hn) := by
      simp only [φ1, List.getElem?_map, hσi, Option.map_some, List.getD_eq_getElem?_getD, hφi, Option.getD_some, Option.some.injEq] at hf
      exact hf.symm
    rw [eh, ef]; exact h2
  refine Ret.mono (hr X.e w m ρ1 φ1 _ vs hc.mle (renL_fwd hfwd as1 hv) hos hsh) ?_
  rintro v w' ⟨rs, H', m', ρ1', φ1', h1, h2, h3, h4, h5, h6, h7⟩
  exact ⟨rs, H', m', ρ1', φ1', h1, h2, by rw [hlen]; exact h4, fun i j h hi hj => h3 i h (hfwd i j h hi hj), h5, h6, h7⟩

/-- A call that turns what is handed to it. -/
theorem aop_callO {f : FuncId} {xs : List Operand} {as1 as' rs : List AV} {H1 H' : List AO} {σ : List Nat} {ts : Array TypeId} {K : AS → Prop} {r : AV} (hr : RunsM X.m P f as1 H1 fun q Hq => q = rs ∧ Hq = H') (hf : Enters P f) (hx : xs.map (aev st.l) = as'.map some) (hcv : cvL (renL σ as1) as') (hσ : (nodupB σ && σ.all fun i => Nat.blt i st.n) = true) (hH : σ.map st.H.get = H1.map (AO.ren σ))
    (hrs : tupA (renL (σ ++ fromN st.n (H'.length - σ.length)) rs) = r) (k : K ⟨(d, r) :: st.l, updH 0 (σ ++ fromN st.n (H'.length - σ.length)) (H'.map (AO.ren (σ ++ fromN st.n (H'.length - σ.length)))) st.H, st.n + (H'.length - σ.length)⟩) (hN : Nat.blt d N.n = true := by rfl) :
    AOp P N X ⟨some d, .call ⟨.value (.func f), xs.toArray, ts⟩, U, pos, aft, g⟩ K st :=
  aop_of fun Q fr w m ρ φ hc K' hK => by
    obtain ⟨vs, h1, h2⟩ := hc.evl hx
    have hσ' := hσ
    rw [Bool.and_eq_true] at hσ'
    refine op_call hf h1 (ret_own hr hc hσ hH (cvL_rep hcv h2)) hN ?_
    rintro v w' ⟨rs', H'', m', ρ1', φ1', ⟨rfl, rfl⟩, g1, g2, g3, g4, g5, us, g6, rfl⟩
    subst hrs
    obtain ⟨ρ', φ', hcc⟩ := conc_call (d := d) (av := tupA (renL (σ ++ fromN st.n (H''.length - σ.length)) rs')) (v := tupleOf us) hc (nodup_of hσ'.1) (fun i hi => by have := hσ'.2; rw [List.all_eq_true] at this; simpa using this i hi) g1 g2 g3 g4 g5 (fun ρ' hb => rep_tup (renL_bwd hb _ g6))
    exact hK _ _ _ _ _ _ hcc k
end

/-- A function that ends with what was handed to it. -/
theorem ret_o {P : Program} {X : Cx} {rs : List ResultVar} {k n : Nat} {st : AS} {as' r : List AV} {l' : AFr} {Hs : AH} {H' : List AO} (h : Wk X st ⟨l', Hs, n⟩) (hr : as' = r) (hH : (List.range n).map (AH.get Hs) = H') (hk : Nat.ble k n = true) (ho : AOuts P l' rs as') : retW P X rs k (fun q Hq => q = r ∧ Hq = H') .ret st :=
  ⟨⟨l', Hs, n⟩, h, as', _, ho, hH, hk, hr, rfl⟩
end Go.Ab


set_option linter.unusedVariables false
set_option linter.unusedSimpArgs false
namespace Go.Ab
open Go.RowKit Go.Shelf Go.Proofs Go.Eng

/-! nothing that is owned is a loop's record, but for guests' -/
theorem SlRep.noctl {m : Mem} {T : TypeId} {t : Ty} {x : List t.den} {h : Value} {f : Frag} (H : SlRep m T t x h f) : ∀ q ∈ f, ctl q.2 = false := by
  obtain ⟨_, ⟨_, _, rfl⟩ | ⟨b, c, cs, vs, _, rfl, _⟩⟩ := H
  · intro q hq; cases hq
  · intro q hq; rw [List.mem_singleton.1 hq]; rfl
theorem RowsO.noctl {m : Mem} {T : TypeId} {t : Ty} {x : List (List t.den)} {rs : List Value} {fs : List Frag} (H : RowsO m T t x rs fs) : ∀ q ∈ fs.flatten, ctl q.2 = false := by
  obtain ⟨_, l2, l3⟩ := H.at
  intro q hq
  obtain ⟨f, hf, hqf⟩ := List.mem_flatten.1 hq
  obtain ⟨i, hi, rfl⟩ := List.getElem_of_mem hf
  obtain ⟨r, g, _, h2, h3⟩ := l3 i _ (List.getElem?_eq_getElem (by omega))
  rw [List.getElem?_eq_getElem hi] at h2; cases h2
  exact h3.noctl q hqf
theorem OR.noctl {m : Mem} : ∀ {o : OT} {x : o.den} {cs : List Value} {f : Frag}, OR m o x cs f → ∀ q ∈ f, ctl q.2 = false := by
  intro o
  induction o with
  | dat t => intro x cs f h q hq; rw [h.2] at hq; cases hq
  | pair a b iha ihb =>
    intro x cs f h q hq
    obtain ⟨c, d, g, k, _, rfl, h3, h4⟩ := h
    rcases List.mem_append.1 hq with hq | hq
    · exact iha h3 q hq
    · exact ihb h4 q hq
  | pt T e ih =>
    intro x cs f h q hq
    obtain ⟨b, us, g, _, rfl, _, h4⟩ := h
    rcases List.mem_cons.1 hq with rfl | hq
    · rfl
    · exact ih h4 q hq
  | sl E e ih =>
    intro x cs f h q hq
    obtain ⟨_, ⟨_, _, rfl⟩ | ⟨b, c, arr, us, fs, _, rfl, _, _, _, h6, h7, _, h9⟩⟩ := h
    · cases hq
    · rcases List.mem_cons.1 hq with rfl | hq
      · rfl
      · obtain ⟨g, hg, hqg⟩ := List.mem_flatten.1 hq
        obtain ⟨i, hi, rfl⟩ := List.getElem_of_mem hg
        exact ih (h9 i _ _ _ (List.getElem?_eq_getElem (by omega)) (List.getElem?_eq_getElem (by omega)) (List.getElem?_eq_getElem hi)) q hqg
  | mp k v ih =>
    intro x cs f h q hq
    obtain ⟨b, es, cl, fs, _, rfl, h3, h4, _, h6⟩ := h
    rcases List.mem_cons.1 hq with rfl | hq
    · rfl
    · obtain ⟨g, hg, hqg⟩ := List.mem_flatten.1 hq
      obtain ⟨i, hi, rfl⟩ := List.getElem_of_mem hg
      obtain ⟨_, us, _, b3⟩ := h6 i _ _ _ (List.getElem?_eq_getElem (by omega)) (List.getElem?_eq_getElem (by omega)) (List.getElem?_eq_getElem hi)
      exact ih b3 q hqg
def AO.plain : AO → Bool
  | .guest _ => false
  | _ => true
theorem ORep.noctl {m : Mem} {ρ : List Value} {o : AO} {h : Value} {f : Frag} (H : ORep m ρ o h f) (hp : o.plain = true) : ∀ q ∈ f, ctl q.2 = false := by
  cases o with
  | dead => intro q hq; rw [show f = [] from H] at hq; cases hq
  | var T cs => obtain ⟨b, us, _, rfl, _⟩ := H; intro q hq; rw [List.mem_singleton.1 hq]; rfl
  | sl T t x => exact SlRep.noctl (x := x) H
  | slo T T' t x =>
    obtain ⟨rs, fs, f0, b, c, cs, _, rfl, rfl, _, _, _, _, _, h9⟩ := H
    intro q hq
    rcases List.mem_append.1 hq with hq | hq
    · rw [List.mem_singleton.1 hq]; rfl
    · exact h9.noctl q hq
  | sloh T T' t x z j =>
    obtain ⟨rs, fs, f0, b, c, cs, r, _, rfl, rfl, _, _, _, _, _, h9, _⟩ := H
    intro q hq
    rcases List.mem_append.1 hq with hq | hq
    · rw [List.mem_singleton.1 hq]; rfl
    · exact h9.noctl q hq
  | guest p => cases hp
  | bld T E s =>
    obtain ⟨_, b, _, ⟨_, p, _, rfl⟩ | ⟨b2, c, cs, rfl, _⟩⟩ := H
    · intro q hq; rw [List.mem_singleton.1 hq]; rfl
    · intro q hq
      simp only [List.mem_cons, List.not_mem_nil, or_false] at hq
      rcases hq with rfl | rfl <;> rfl
  | mpt k v x hs =>
    obtain ⟨_, _, b, es, cl, fs, _, rfl, h3, h4, _, h6⟩ := H
    intro q hq
    rcases List.mem_cons.1 hq with rfl | hq
    · rfl
    · obtain ⟨g, hg, hqg⟩ := List.mem_flatten.1 hq
      obtain ⟨i, hi, rfl⟩ := List.getElem_of_mem hg
      obtain ⟨_, h7, h8⟩ := h6 i _ _ _ (List.getElem?_eq_getElem (by omega)) (List.getElem?_eq_getElem (by omega)) (List.getElem?_eq_getElem hi)
      by_cases e : ∃ n, ((x[i]'(by omega)).1, n) ∈ hs
      · obtain ⟨n, hn⟩ := e
        rw [(h7 n hn).1] at hqg; cases hqg
      · exact OR.noctl (h8 fun n hn => e ⟨n, hn⟩) q hqg
  | map tk tv x => obtain ⟨b, es, cl, _, rfl, _⟩ := H; intro q hq; rw [List.mem_singleton.1 hq]; rfl
  | mapr tk tv x left cur j =>
    obtain ⟨b, es, cl, r, since, c0, seen, _, rfl, _⟩ := H
    intro q hq
    simp only [List.mem_cons, List.not_mem_nil, or_false] at hq
    rcases hq with rfl | rfl <;> rfl
  | mit tk tv left cur =>
    rcases H with ⟨r, since, c0, seen, _, _, _, rfl⟩ | ⟨b, es, cl, r, since, c0, seen, x, _, _, rfl, _⟩ <;> (intro q hq; rw [List.mem_singleton.1 hq]; rfl)
theorem OsRep.noctl {m : Mem} {ρ : List Value} {H : List AO} {φ : List Frag} (h : OsRep m ρ H φ) (hp : (H.all AO.plain) = true) : ∀ q ∈ φ.flatten, ctl q.2 = false := by
  intro q hq
  obtain ⟨g, hg, hqg⟩ := List.mem_flatten.1 hq
  obtain ⟨i, hi, rfl⟩ := List.getElem_of_mem hg
  have h1 : i < H.length := by rw [← h.nφ]; exact hi
  have h2 := h.at_ i _ _ _ (List.getElem?_eq_getElem h1) (List.getElem?_eq_getElem (by rw [h.nρ]; exact h1)) (List.getElem?_eq_getElem hi)
  rw [List.all_eq_true] at hp
  exact h2.noctl (hp _ (List.getElem_mem h1)) q hqg

/-! worlds with some records -/
open Classical in
/-- The same streams, with just these records. -/
noncomputable def eWith (e : World) (n : Nat) (C : Nat → Prop) : World := { e with heap := ((List.range n).map fun k => if C k then Obj.deferred (some []) else Obj.cells #[] 0 (0, 0)).toArray }
theorem inC_eWith {e : World} {n : Nat} {C : Nat → Prop} {k : Nat} : inC (eWith e n C) k ↔ k < n ∧ C k := by
  unfold inC eWith
  simp only [List.getElem?_toArray, List.getElem?_map]
  constructor
  · rintro ⟨o, h1, h2⟩
    obtain ⟨j, h3, rfl⟩ := Option.map_eq_some_iff.1 h1
    have hk : k < n := by have := (List.getElem?_eq_some_iff.1 h3).1; simpa using this
    rw [List.getElem?_range hk] at h3; cases h3
    refine ⟨hk, ?_⟩
    by_cases hc : C k
    · exact hc
    · rw [if_neg hc] at h2; cases h2
  · rintro ⟨h1, h2⟩
    exact ⟨_, by rw [List.getElem?_range h1]; rfl, by simp only [if_pos h2]; rfl⟩
theorem eWith_size {e : World} {n : Nat} {C : Nat → Prop} : (eWith e n C).heap.size = n := by simp [eWith]
/-- Another world for the records. -/
theorem SH.at_e {e e' w : World} {m : Mem} {f : Frag} (h : SH e w m f) (h1 : e'.os = e.os) (h2 : e'.tape = e.tape) (h3 : e'.output = e.output) (h4 : ∀ p ∈ f, ctl p.2 = true → inC e' p.1) (h5 : e'.heap.size ≤ w.heap.size) : SH e' w m f :=
  ⟨h.os.trans h1.symm, h.tape.trans h2.symm, h.output.trans h3.symm, h.fz, h.own, h.nd, h.dis, h4, h.mctl, h5⟩
theorem inC_lt {e : World} {k : Nat} (h : inC e k) : k < e.heap.size := let ⟨_, h1, _⟩ := h; (Array.getElem?_eq_some_iff.1 h1).1

/-! loops over functions -/
/-- What a call gives, where some records may turn. -/
def RetX (ex : Nat → Prop) (P : Program) (f : FuncId) (args : Array Value) (w : World) (R : Value → World → Prop) : Prop := Calls P f args w fun e w' => ∃ v, e = .returned v ∧ (DK ex w w' ∧ w.heap.size ≤ w'.heap.size) ∧ R v w'
theorem retX_of {P : Program} {w : World} {ex : Nat → Prop} (hx : ∀ x, ex x → x < w.heap.size) {f : FuncId} {fn : Func} {c : Code} {n : Nat} {args : List Value} {R : Value → World → Prop} (hf : P.funcs[f]? = some fn) (hb : fn.body = some c) (hN : fn.ntmps = n) (hle : Nat.ble args.length n = true) {rs : List ResultVar} (hr : fn.results = rs.toArray)
    (h : WC P ⟨n, none, w, ex, true⟩ c (retQM P rs w R) (argFr 0 args) w) : RetX ex P f args.toArray w R := by
  refine (callsIn_wide (n := 0)).1 (callsIn_of_wp_marks (F := Fence.wide) hf hb trivial ?_)
  have hle' : args.length ≤ n := by simpa using hle
  refine wpIn_mono (h _ (args_hold (by rw [hN]) hle') (good_start hx)) ?_
  have key : ∀ (l' : Fr) (a' : Act) (w' : World), Eng.Holds ⟨n, none, w, ex, true⟩ l' a' → Eng.Good ⟨n, none, w, ex, true⟩ a' w' →
      (∀ w2, But [] w.heap.size w' w2 → w'.heap.size = w2.heap.size → ∃ vs, OutsAt P l' w2 rs vs ∧ R (tupleOf vs) w2) →
      LeavesInM Fence.wide 0 P fn a'.tmps (fun e w' => ∃ v, e = .returned v ∧ (DK ex w w' ∧ w.heap.size ≤ w'.heap.size) ∧ R v w') a'.defers .returning w' := by
    intro l' a' w' hl' g q
    obtain ⟨Ds, e1, _, e3, e4⟩ := g.marks
    rw [e1]
    refine leaves_marks (b := w.heap.size) e3 (fun D hm => ⟨(e4 D hm).1, (e4 D hm).2.2⟩) fun w2 hB hs hdk => ?_
    obtain ⟨vs, ho, hR⟩ := q w2 hB hs
    refine ⟨_, outs_tmps hl' ho fn hr, _, rfl, ⟨?_, by rw [← hs]; exact g.size⟩, hR⟩
    intro k o hk hc hx
    have h1 := g.dk k o hk hc hx
    refine hdk k o ?_ hc (fun h => h)
    show (w'.heap.extract 0 w.heap.size)[k]? = some o
    have hlt := (Array.getElem?_eq_some_iff.1 hk).1
    have hgs : w.heap.size ≤ w'.heap.size := g.size
    rw [Array.getElem?_extract, if_pos (by omega)]
    simpa using h1
  rintro e a' w' ⟨l', hl', g, q⟩
  cases e with
  | normal => exact key l' a' w' hl' g q
  | ret => exact key l' a' w' hl' g q
  | _ => exact q.elim

/-- What an iterator does: its guests' records may turn. -/
def RunsX (m0 : Mem) (P : Program) (f : FuncId) (args : List AV) (H : List AO) (R : List AV → List AO → Prop) : Prop :=
  ∀ (e w : World) (m : Mem) (ρ : List Value) (φ : List Frag) (F : Frag) (vs : List Value), m0.le m → RepL m ρ args vs → OsRep m ρ H φ → SH e w m (φ.flatten ++ F) →
    RetX (inC e) P f vs.toArray w fun v w' => ∃ rs H' m' ρ' φ', R rs H' ∧ m.le m' ∧ (∀ (i : Nat) (h : Value), ρ[i]? = some h → ρ'[i]? = some h) ∧ H.length ≤ H'.length ∧ OsRep m' ρ' H' φ' ∧ SH e w' m' (φ'.flatten ++ F) ∧ ∃ us, RepL m' ρ' rs us ∧ v = tupleOf us
/-- The records that may turn are exceptions, or lie in the frame. -/
def HX (ex : Nat → Prop) (X : Cx) : Prop := ∀ k, inC X.e k → ex k ∨ ∃ o, (k, o) ∈ X.F

theorem args_conc {e w : World} {m : Mem} {ρ : List Value} {φ : List Frag} {F : Frag} {vs : List Value} {args : List AV} {H : List AO} (hv : RepL m ρ args vs) (ho : OsRep m ρ H φ) (hs : SH e w m (φ.flatten ++ F)) : Conc ⟨e, m, ρ, F⟩ ⟨argA 0 args, zipH 0 H, H.length⟩ (argFr 0 vs) w m ρ φ := by
  refine ⟨Mem.le_refl _, fun _ _ h => h, ho.nρ, ho.nφ, arg_rep hv, ?_, hs⟩
  intro i hd f hi hf
  have hil : i < H.length := by rw [← ho.nρ]; exact (List.getElem?_eq_some_iff.1 hi).1
  have hH : H[i]? = some (H[i]'hil) := List.getElem?_eq_getElem hil
  have := zipH_get (i := 0) hH
  rw [Nat.zero_add] at this
  show ORep m ρ (AH.get (zipH 0 H) i) hd f
  rw [this]
  exact ho.at_ i _ hd f hH hi hf
theorem outs_conc {P : Program} {X : Cx} {st : AS} {l : Fr} {w w' : World} {m m' : Mem} {ρ' : List Value} {φ' : List Frag} {rs : List ResultVar} {k : Nat} {R : List AV → List AO → Prop} (hc : Conc X st l w' m' ρ' φ') (hq : aretQ P rs k R .normal st) :
    ∃ vs, OutsAt P l w' rs vs ∧ ∃ rs' H' m'' ρ'' φ'', R rs' H' ∧ X.m.le m'' ∧ (∀ (i : Nat) (h : Value), X.ρ[i]? = some h → ρ''[i]? = some h) ∧ k ≤ H'.length ∧ OsRep m'' ρ'' H' φ'' ∧ SH X.e w' m'' (φ''.flatten ++ X.F) ∧ ∃ us, RepL m'' ρ'' rs' us ∧ tupleOf vs = tupleOf us := by
  obtain ⟨as', H', h1, rfl, hk, hR⟩ := hq
  obtain ⟨us, h2, h3⟩ := aouts hc h1
  refine ⟨us, h2, as', _, m', ρ', φ', hR, hc.mle, hc.pre, ?_, ⟨?_, ?_, ?_⟩, hc.sh, us, h3, rfl⟩
  · simpa using Nat.le_of_ble_eq_true hk
  · simpa using hc.nρ
  · simpa using hc.nφ
  · intro i o hd f hi hh hf
    rw [List.getElem?_map] at hi
    obtain ⟨j, hj, rfl⟩ := Option.map_eq_some_iff.1 hi
    have hil := (List.getElem?_eq_some_iff.1 hj).1
    rw [List.getElem?_range (by simpa using hil)] at hj
    cases hj
    exact hc.objs i hd f hh hf

/-- Control blocks alone turn, none of which is owned. -/
theorem SH.but {e w w' : World} {m : Mem} {f : Frag} {b : Nat} (h : SH e w m f) (hB : But [] b w w') (hb : e.heap.size ≤ b) : SH e w' m f :=
  ⟨hB.os.trans h.os, hB.tape.trans h.tape, hB.output.trans h.output, fun x o hx => hB.same x o (h.fz _ _ hx) (by simp) (.inl (h.mctl _ _ hx)), fun p hp => hB.same _ _ (h.own p hp) (by simp) (by
    cases hc : ctl p.2 with
    | false => exact .inl rfl
    | true => exact .inr (Nat.lt_of_lt_of_le (inC_lt (h.noctl p hp hc)) hb)), h.nd, h.dis, h.noctl, h.mctl, Nat.le_trans h.esz hB.size⟩
theorem Conc.but {X : Cx} {st : AS} {fr : Fr} {w w' : World} {m : Mem} {ρ : List Value} {φ : List Frag} {b : Nat} (h : Conc X st fr w m ρ φ) (hB : But [] b w w') (hb : X.e.heap.size ≤ b) : Conc X st fr w' m ρ φ :=
  ⟨h.mle, h.pre, h.nρ, h.nφ, h.slots, h.objs, h.sh.but hB hb⟩
/-- An iterator's code. -/
theorem runs_wX {P : Program} {m0 : Mem} {f : FuncId} {fn : Func} {c : Code} {n : Nat} {args : List AV} {H : List AO} {R : List AV → List AO → Prop} {rs : List ResultVar} (hf : P.funcs[f]? = some fn) (hN : fn.ntmps = n) (hb : fn.body = some c) (hr : fn.results = rs.toArray) (hle : Nat.ble args.length n = true)
    (h : ∀ (w0 : World) (X : Cx) (ex : Nat → Prop), m0.le X.m → X.ρ.length = H.length → HX ex X → AWC P ⟨n, none, w0, ex, true⟩ X c (retW P X rs H.length R) ⟨argA 0 args, zipH 0 H, H.length⟩) : RunsX m0 P f args H R := by
  intro e w m ρ φ F vs hm0 hv ho hs
  have hl := hv.len
  refine retX_of (fun x hx => Nat.lt_of_lt_of_le (inC_lt hx) hs.esz) hf hb hN (by rw [hl]; exact hle) hr ?_
  refine WC.mono ?_ (h w ⟨e, m, ρ, F⟩ (inC e) hm0 ho.nρ (fun k hk => .inl hk) _ _ _ _ _ (args_conc hv ho hs))
  rintro ex l w' ⟨st, m', ρ', φ', hc', hq⟩
  cases ex with
  | normal => obtain ⟨st', h3, h4⟩ := hq; obtain ⟨m'', ρ'', φ'', h5⟩ := h3 _ _ _ _ _ hc'; exact fun w2 hB _ => outs_conc (w := w) (m := m) (h5.but hB hs.esz) h4
  | ret => obtain ⟨st', h3, h4⟩ := hq; obtain ⟨m'', ρ'', φ'', h5⟩ := h3 _ _ _ _ _ hc'; exact fun w2 hB _ => outs_conc (w := w) (m := m) (h5.but hB hs.esz) h4
  | _ => exact hq.elim

/-- A function with loops over functions in it. -/
theorem runs_wM0 {P : Program} {m0 : Mem} {f : FuncId} {fn : Func} {c : Code} {n : Nat} {args : List AV} {H : List AO} {R : List AV → List AO → Prop} {rs : List ResultVar} (hf : P.funcs[f]? = some fn) (hN : fn.ntmps = n) (hb : fn.body = some c) (hr : fn.results = rs.toArray) (hle : Nat.ble args.length n = true) (hp : (H.all AO.plain) = true)
    (h : ∀ (w0 : World) (X : Cx), m0.le X.m → X.ρ.length = H.length → HX nox X → AWC P ⟨n, none, w0, nox, true⟩ X c (retW P X rs H.length R) ⟨argA 0 args, zipH 0 H, H.length⟩) : RunsM m0 P f args H R := by
  intro e w m ρ φ F vs hm0 hv ho hs
  have hl := hv.len
  have hnc := ho.noctl hp
  obtain ⟨e0, he0⟩ : ∃ e0, e0 = eWith e w.heap.size (fun k => ∃ o, (k, o) ∈ F ∧ ctl o = true) := ⟨_, rfl⟩
  have hin : ∀ k, inC e0 k ↔ k < w.heap.size ∧ ∃ o, (k, o) ∈ F ∧ ctl o = true := fun k => by rw [he0]; exact inC_eWith
  have hsz : e0.heap.size = w.heap.size := by rw [he0]; exact eWith_size
  have hs0 : SH e0 w m (φ.flatten ++ F) := hs.at_e (by rw [he0]; rfl) (by rw [he0]; rfl) (by rw [he0]; rfl) (fun p hp' hc => by
    rcases List.mem_append.1 hp' with h1 | h1
    · rw [hnc p h1] at hc; cases hc
    · exact (hin _).2 ⟨hs.lt hp', p.2, h1, hc⟩) (by rw [hsz]; exact Nat.le_refl _)
  have hret : Ret P f vs.toArray w fun v w' => ∃ rs H' m' ρ' φ', R rs H' ∧ m.le m' ∧ (∀ (i : Nat) (h : Value), ρ[i]? = some h → ρ'[i]? = some h) ∧ H.length ≤ H'.length ∧ OsRep m' ρ' H' φ' ∧ SH e0 w' m' (φ'.flatten ++ F) ∧ ∃ us, RepL m' ρ' rs us ∧ v = tupleOf us := by
    refine ret_ofM hf hb hN (by rw [hl]; exact hle) hr ?_
    refine WC.mono ?_ (h w ⟨e0, m, ρ, F⟩ hm0 ho.nρ (fun k hk => .inr (by obtain ⟨_, o, h1, _⟩ := (hin k).1 hk; exact ⟨o, h1⟩)) _ _ _ _ _ (args_conc hv ho hs0))
    rintro ex l w' ⟨st, m', ρ', φ', hc', hq⟩
    cases ex with
    | normal => obtain ⟨st', h3, h4⟩ := hq; obtain ⟨m'', ρ'', φ'', h5⟩ := h3 _ _ _ _ _ hc'; exact fun w2 hB _ => outs_conc (w := w) (m := m) (h5.but hB (Nat.le_of_eq hsz)) h4
    | ret => obtain ⟨st', h3, h4⟩ := hq; obtain ⟨m'', ρ'', φ'', h5⟩ := h3 _ _ _ _ _ hc'; exact fun w2 hB _ => outs_conc (w := w) (m := m) (h5.but hB (Nat.le_of_eq hsz)) h4
    | _ => exact hq.elim
  refine Calls.mono hret ?_
  rintro en w' ⟨v, he, hd, rs', H', m', ρ', φ', h1, h2, h3, h4, h5, h6, h7⟩
  refine ⟨v, he, hd, rs', H', m', ρ', φ', h1, h2, h3, h4, h5, ?_, h7⟩
  refine h6.at_e (by rw [he0]; rfl) (by rw [he0]; rfl) (by rw [he0]; rfl) (fun p hp' hc => ?_) (Nat.le_trans hs.esz hd.2)
  obtain ⟨_, o, h8, h9⟩ := (hin _).1 (h6.noctl p hp' hc)
  exact hs.noctl (p.1, o) (List.mem_append.2 (.inr h8)) h9
/-- What a call of the loop's own function does: its record is its guest's. -/
def YieldsX (P : Program) (L : Nat) (args : List AV) (b : Bool) (g g' : Mem → Frag → Prop) : Prop :=
  ∀ (e w : World) (m : Mem) (f F : Frag) (vs : List Value), RepL m [] args vs → (∃ m0, m0.le m ∧ g m0 f) → SH e w m (f ++ F) →
    YieldAt (FW none) 0 P L vs.toArray w fun en w' => en = .returned (.bool b) ∧ DK (inC e) w w' ∧ w.heap.size ≤ w'.heap.size ∧ ∃ m' f', m.le m' ∧ g' m' f' ∧ SH e w' m' (f' ++ F)

/-- What lies in the frame is as it was. -/
theorem dk_frame {ex : Nat → Prop} {X : Cx} {w w' : World} {m m' : Mem} {f f' : Frag} (hx : HX ex X) (hd : DK (inC X.e) w w') (h : SH X.e w m (f ++ X.F)) (h' : SH X.e w' m' (f' ++ X.F)) : DK ex w w' := by
  intro k o hk hc hn
  by_cases hi : inC X.e k
  · rcases hx k hi with he | ⟨o', ho'⟩
    · exact absurd he hn
    · have h1 := h.own (k, o') (List.mem_append.2 (.inr ho'))
      have h2 := h'.own (k, o') (List.mem_append.2 (.inr ho'))
      simp only at h1 h2
      rw [hk] at h1; cases h1; exact h2
  · exact hd k o hk hc hi

section
variable {P : Program} {N : Ev} {X : Cx} {Q : APost} {st : AS}
variable {d : Nat} {T U T' : TypeId} {pos : String} {aft : Array Edge} {g : Option (Nat × Bool)} {x y : Operand}
theorem aop_yield {fx : Operand} {L i : Nat} {b : Bool} {xs : List Operand} {as' : List AV} {ts : Array TypeId} {p p' : Mem → Frag → Prop} {K : AS → Prop} (hfx : aev st.l fx = some (.yld L)) (hx : xs.map (aev st.l) = as'.map some) (hcl : renL [] as' = as') (hex : HX N.ex X) (hH : st.H.get i = .guest p) (hi : Nat.blt i st.n = true) (hY : YieldsX P L as' b p p')
    (k : K ⟨(d, .bool b) :: st.l, (i, .guest p') :: st.H, st.n⟩) (hN : Nat.blt d N.n = true := by rfl) : AOp P N X ⟨some d, .call ⟨.value fx, xs.toArray, ts⟩, U, pos, aft, g⟩ K st := by
  intro Q fr w m ρ φ hc a ha hgd
  obtain ⟨fv, h1, h2⟩ := hc.ev hfx
  simp only [RepA] at h2
  subst h2
  obtain ⟨vs, h3, h4⟩ := hc.evl hx
  have h4' : RepL m [] as' vs := by
    refine renL_fwd (σ := []) (ρ := ρ) (fun i j u hi _ => by simp at hi) as' ?_
    rw [hcl]; exact h4
  have hin : i < st.n := by simpa using hi
  obtain ⟨h, hh⟩ : ∃ h, ρ[i]? = some h := ⟨_, List.getElem?_eq_getElem (by rw [hc.nρ]; exact hin)⟩
  obtain ⟨f, hf⟩ : ∃ f, φ[i]? = some f := ⟨_, List.getElem?_eq_getElem (by rw [hc.nφ]; exact hin)⟩
  have ho := hc.objs i h f hh hf
  rw [hH] at ho
  obtain ⟨fn, tm, asg, bd, hy, hR⟩ := hY X.e w m f _ vs h4' ho (hc.front hf)
  refine ⟨fun _ _ => trivial, ?_⟩
  show Oper.uponIn (FW N.ro) 0 P _ a _ _ ((Oper.semAt N.ro a.eval _).run P w)
  have e := evl_eval ha h3
  have hrun : (execOp a.eval ⟨some d, .call ⟨.value fx, xs.toArray, ts⟩, U, pos, aft, g⟩).run P w = .ok (.round L fn tm asg bd) w := by
    simp [execOp, resolve, Deferred.ofValue, ha.eval h1, invoke, e, hy]
  rw [semAt_nodef rfl, hrun, Oper.uponIn_round]
  refine ⟨(fun h => by simp [FW] at h), (roundIn_FW hR).mono ?_⟩
  rintro en w' ⟨rfl, hdk, hsz, m', f', hm, hg', hs'⟩
  have hs2 : SH X.e w' m' ((φ.set i f').flatten ++ X.F) := by
    refine hs'.perm ?_
    rw [← List.append_assoc]
    exact List.Perm.append_right _ (frag_split hf f').2.symm
  refine ⟨_, ha.put (by simpa [Nat.blt_eq] using hN) (.bool b), hgd.step rfl (dk_frame hex hdk hc.sh hs2) hsz, ⟨_, m', ρ, φ.set i f', ?_, k⟩⟩
  have hc1 : Conc X (st.put d (.bool b)) ((d, .bool b) :: fr) w m ρ φ := hc.put (by simp only [RepA])
  refine ⟨hc1.mle.trans hm, hc1.pre, hc1.nρ, by rw [List.length_set]; exact hc1.nφ, fun t b hb => let ⟨v, q1, q2⟩ := hc1.slots t b hb; ⟨v, q1, RepA.mono hm (fun _ _ h => h) b q2⟩, ?_, hs2⟩
  intro j hd fj hj hfj
  show ORep m' ρ (AH.get ((i, .guest p') :: st.H) j) hd fj
  rw [AH.get_cons]
  split
  · rename_i ee
    subst ee
    rw [List.getElem?_set_self (by rw [hc.nφ]; exact hin)] at hfj
    cases hfj
    exact ⟨m', Mem.le_refl _, hg'⟩
  · rename_i ee
    rw [List.getElem?_set_ne (fun e => ee e)] at hfj
    exact (hc.objs j hd fj hj hfj).mono hm (fun _ _ h => h)

/-- A frame with the loop's variables. -/
def zipA : AFr → List Nat → List AV → AFr
  | l, p :: ps, v :: vs => zipA ((p, v) :: l) ps vs
  | l, _, _ => l
theorem zip_rep {m : Mem} {ρ : List Value} : ∀ {ps : List Nat} {as' : List AV} {vs : List Value} {l : AFr} {fr : Fr}, (∀ t a, l.look t = some a → ∃ v, fr.look t = some v ∧ RepA m ρ a v) → RepL m ρ as' vs → ∀ t a, (zipA l ps as').look t = some a → ∃ v, (zipFr fr ps vs).look t = some v ∧ RepA m ρ a v := by
  intro ps
  induction ps with
  | nil => intro as' vs l fr h _ t a ht; simp only [zipA] at ht; simp only [zipFr]; exact h t a ht
  | cons p ps ih =>
    intro as' vs l fr h hv t a ht
    cases as' with
    | nil => cases vs with
      | nil => simp only [zipA] at ht; simp only [zipFr]; exact h t a ht
      | cons => simp [RepL] at hv
    | cons b as' => cases vs with
      | nil => simp [RepL] at hv
      | cons v vs =>
        simp only [RepL] at hv
        simp only [zipA] at ht
        simp only [zipFr]
        refine ih ?_ hv.2 t a ht
        intro q c hq
        rw [AFr.look_cons] at hq
        rw [Fr.look_cons]
        split
        · rename_i e; rw [if_pos e] at hq; cases hq; exact ⟨v, rfl, hv.1⟩
        · rename_i e; rw [if_neg e] at hq; exact h q c hq

/-- How a round ends. -/
def rangeQ {σ R : Type} (X : Cx) (H : σ → AH) (Hx : R → AH) (ek : R → Exit) (n : Nat) (nx : R → Nat) : σ ⊕ R → APost
  | .inl s, e, st => e = .normal ∧ Wk X st ⟨[], H s, n⟩
  | .inr r, e, st => e = ek r ∧ Wk X st ⟨[], Hx r, nx r⟩
/-- The state of the rounds, as the iterator's caller sees it. -/
def gst (m : Mem) (ρk : List Value) (H : AH) (n : Nat) : Mem → Frag → Prop := fun m1 f => m.le m1 ∧ ∃ (ρ1 : List Value) (φ1 : List Frag), (∀ (i : Nat) (h : Value), ρk[i]? = some h → ρ1[i]? = some h) ∧ ρ1.length = n ∧ φ1.length = n ∧
  (∀ (i : Nat) (h : Value) (f : Frag), ρ1[i]? = some h → φ1[i]? = some f → ORep m1 ρ1 (H.get i) h f) ∧ f = φ1.flatten
/-- With the loop's record. -/
def gsr (L : Nat) (rec : Obj) (p : Mem → Frag → Prop) : Mem → Frag → Prop := fun m1 f => ∃ f0, f = (L, rec) :: f0 ∧ p m1 f0

theorem closed_at {σ : List Nat} {t : Nat} {a : AV} : ∀ {l : AFr}, l.map (fun p => renA σ p.2) = l.map (·.2) → l.look t = some a → renA σ a = a := by
  intro l
  induction l with
  | nil => intro _ h; simp [AFr.look] at h
  | cons p r ih =>
    intro hcl ht
    obtain ⟨t', b⟩ := p
    rw [AFr.look_cons] at ht
    simp only [List.map_cons, List.cons.injEq] at hcl
    split at ht
    · cases ht; exact hcl.1
    · exact ih hcl.2 ht

theorem frag_take {φ : List Frag} : ∀ {σ : List Nat}, σ.Nodup → (∀ i ∈ σ, i < φ.length) → ∃ φ0 : List Frag, φ0.length = φ.length ∧ (∀ i ∈ σ, φ0[i]? = some []) ∧ (∀ i, i ∉ σ → φ0[i]? = φ[i]?) ∧ φ.flatten.Perm ((σ.map fun i => φ.getD i []).flatten ++ φ0.flatten) := by
  intro σ
  induction σ with
  | nil => intro _ _; exact ⟨φ, rfl, by simp, fun _ _ => rfl, by simp⟩
  | cons a σ ih =>
    intro hn hl
    obtain ⟨hn1, hn2⟩ := List.nodup_cons.1 hn
    obtain ⟨φ0, h1, h2, h3, h4⟩ := ih hn2 (fun i hi => hl i (by simp [hi]))
    have ha : a < φ.length := hl a (by simp)
    have hf : φ0[a]? = some (φ.getD a []) := by rw [h3 a hn1, List.getD_eq_getElem?_getD, List.getElem?_eq_getElem ha]; rfl
    refine ⟨φ0.set a [], by simp [h1], ?_, ?_, ?_⟩
    · intro i hi
      by_cases e : a = i
      · subst e; exact List.getElem?_set_self (by omega)
      · rw [List.getElem?_set_ne e]
        rcases List.mem_cons.1 hi with rfl | hi
        · exact absurd rfl e
        · exact h2 i hi
    · intro i hi; rw [List.getElem?_set_ne (fun e => hi (by simp [e]))]; exact h3 i (fun h => hi (by simp [h]))
    · rw [List.map_cons, List.flatten_cons]
      refine h4.trans ?_
      have hs := frag_split hf []
      refine (List.Perm.append_left _ (hs.1.trans (List.Perm.append_left _ hs.2.symm))).trans ?_
      rw [← List.append_assoc]; exact List.Perm.append_right _ List.perm_append_comm
/-- A record is written. -/
theorem SH.putC {e w : World} {m : Mem} {f : Frag} {b : Nat} {o o' : Obj} (h : SH e w m ((b, o) :: f)) (hc : inC e b) : SH e (w.putObj b o') m ((b, o') :: f) := by
  have hnd := h.nd
  rw [List.map_cons, List.nodup_cons] at hnd
  have hlt : b < w.heap.size := (Array.getElem?_eq_some_iff.1 (h.own (b, o) (by simp))).1
  refine ⟨h.os, h.tape, h.output, fun x o' hx => (World.putObj_heap_other ?_).trans (h.fz _ _ hx), ?_, ?_, ?_, ?_, h.mctl, by simpa using h.esz⟩
  · rintro rfl
    have := h.dis (x, o) (by simp)
    simp only at this
    rw [this] at hx; cases hx
  · intro p hp
    rcases List.mem_cons.1 hp with rfl | hp
    · exact World.putObj_heap_same hlt
    · refine (World.putObj_heap_other ?_).trans (h.own p (by simp [hp]))
      intro he
      exact hnd.1 (List.mem_map.2 ⟨p, hp, he⟩)
  · rw [List.map_cons, List.nodup_cons]; exact hnd
  · intro p hp
    rcases List.mem_cons.1 hp with rfl | hp
    · exact h.dis (b, o) (by simp)
    · exact h.dis p (by simp [hp])
  · intro p hp _
    rcases List.mem_cons.1 hp with rfl | hp
    · exact hc
    · rename_i hq; exact h.noctl p (by simp [hp]) hq
/-- A new record. -/
theorem SH.newC {e e' w : World} {m : Mem} {f : Frag} {b : Nat} {o : Obj} (h : SH e w m f) (hb : w.heap[b]? = some o) (hf : ∀ p ∈ f, p.1 ≠ b) (hm : m b = none) (h1 : e'.os = e.os) (h2 : e'.tape = e.tape) (h3 : e'.output = e.output) (hC : inC e' b) (h4 : ∀ p ∈ f, ctl p.2 = true → inC e' p.1) (h5 : e'.heap.size ≤ w.heap.size) : SH e' w m ((b, o) :: f) := by
  refine ⟨h.os.trans h1.symm, h.tape.trans h2.symm, h.output.trans h3.symm, h.fz, ?_, ?_, ?_, ?_, h.mctl, h5⟩
  · intro p hp
    rcases List.mem_cons.1 hp with rfl | hp
    · exact hb
    · exact h.own p hp
  · rw [List.map_cons, List.nodup_cons]
    refine ⟨fun hx => ?_, h.nd⟩
    obtain ⟨p, hp, he⟩ := List.mem_map.1 hx
    exact hf p hp he
  · intro p hp
    rcases List.mem_cons.1 hp with rfl | hp
    · exact hm
    · exact h.dis p hp
  · intro p hp hc
    rcases List.mem_cons.1 hp with rfl | hp
    · exact hC
    · exact h4 p hp hc
theorem dk_putC {ex : Nat → Prop} {L : Nat} {W : World} {o : Obj} (h : ex L) : DK ex W (W.putObj L o) := fun k o' hk _ he => (World.putObj_heap_other (fun e => he (by subst e; exact h))).trans hk

theorem awc_rangeX {σ α R : Type} {gx : Operand} {ps : List Nat} {assign body : Code} {gf : Nat} {caps : List AV} (caps1 : List AV) (H1 : List AO) (k : Nat) (q : σ → α → Option (σ ⊕ R)) (enc : α → List AV) (l : AFr) (H : σ → AH) (Hx : R → AH) (ek : R → Exit) (n : Nat) (nx : R → Nat) (σc : List Nat) {H0 : AH} {s0 : σ} {o : σ ⊕ R}
    (hro : N.ro = none) (hmr : N.mr = true) (hxe : HX N.ex X) (hg : aev l gx = some (.fn gf [] caps)) (hE : Enters P gf) (hcaps : renL (n :: σc) caps1 = caps) (hpn : (ps.all fun p => Nat.blt p N.n) = true) (hps : ∀ x, Nat.beq (enc x).length ps.length = true)
    (hk : Nat.ble k n = true) (hkX : Nat.ble X.ρ.length k = true) (hcl : l.map (fun p => renA (List.range k) p.2) = l.map (·.2))
    (hσ : (nodupB σc && σc.all fun i => Nat.blt i n) = true) (hH1 : σc.map H0.get = H1.map (AO.ren (n :: σc)))
    (hH0 : (List.range n).map (H s0).get = (List.range n).map fun i => bif σc.contains i then AO.dead else H0.get i)
    (hit : ∀ (L : Nat) (G : σ → Mem → Frag → Prop) (Gx : R → Mem → Frag → Prop), (∀ s x s', q s x = some (.inl s') → YieldsX P L (enc x) true (G s) (G s')) → (∀ s x r, q s x = some (.inr r) → YieldsX P L (enc x) false (G s) (Gx r)) →
      RunsX X.m P gf (.yld L :: caps1) (.guest (G s0) :: H1) fun rs H' => rs = [] ∧ ∃ Hc, H' = .guest (Sum.elim G Gx o) :: Hc)
    (hbody : ∀ (w0 : World) (L : Nat) (X2 : Cx) (ex : Nat → Prop), X.m.le X2.m → X2.ρ.length = k → HX ex X2 → ∀ s x s', q s x = some s' → AWC P ⟨N.n, some L, w0, ex, false⟩ X2 assign (fun e st1 => e = .normal ∧ ∀ (w0 : World) (X2 : Cx) (ex : Nat → Prop), X.m.le X2.m → X2.ρ.length = k → HX ex X2 →
      AWC P ⟨N.n, some L, w0, ex, false⟩ X2 body (rangeQ X2 H Hx ek n nx s') st1) ⟨zipA l ps (enc x), H s, n⟩)
    (hek : ∀ r, (jumpOf (ek r)).isSome = true)
    (hdone : ∀ s1, o = .inl s1 → Q .normal ⟨l, H s1, n⟩) (hstop : ∀ r, o = .inr r → Q (ek r) ⟨l, Hx r, nx r⟩) : AWC P N X (.rangeFunc gx ps.toArray assign body) Q ⟨l, H0, n⟩ := by
  intro fr w m ρ φ hc
  have hk' := Nat.le_of_ble_eq_true hk
  have hkX' := Nat.le_of_ble_eq_true hkX
  have hnρ : ρ.length = n := hc.nρ
  have hnφ : φ.length = n := hc.nφ
  rw [Bool.and_eq_true] at hσ
  have hnd := nodup_of hσ.1
  have hlt : ∀ i ∈ σc, i < n := by
    intro i hi
    have := hσ.2
    rw [List.all_eq_true] at this
    simpa using this i hi
  obtain ⟨ρk, hρk⟩ : ∃ ρk, ρk = ρ.take k := ⟨_, rfl⟩
  have hρkl : ρk.length = k := by rw [hρk, List.length_take]; omega
  have hρkp : ∀ (i : Nat) (h : Value), ρk[i]? = some h → ρ[i]? = some h := by
    intro i h hi
    rw [hρk, List.getElem?_take] at hi
    split at hi
    · exact hi
    · cases hi
  have hsl : ∀ t a, l.look t = some a → ∃ v, fr.look t = some v ∧ RepA m ρk a v := by
    intro t a ht
    obtain ⟨v, h1, h2⟩ := hc.slots t a ht
    refine ⟨v, h1, ren_fwd (σ := List.range k) (ρ := ρ) ?_ a ?_⟩
    · intro i j u hi hj
      have hil := (List.getElem?_eq_some_iff.1 hi).1
      rw [List.getElem?_range (by simpa using hil)] at hi
      cases hi
      rw [hρk, List.getElem?_take, if_pos (by simpa using hil)]
      exact hj
    · have := closed_at hcl ht
      rw [this]; exact h2
  obtain ⟨gv, hgv, hgr⟩ := hc.ev hg
  simp only [RepA] at hgr
  obtain ⟨us, ws, rfl, hus, hws⟩ := hgr
  have hus' : us = [] := by
    cases us with
    | nil => rfl
    | cons => simp [RepL] at hus
  subst hus'
  -- what goes into the iterator
  obtain ⟨φ0, hφ1, hφ2, hφ3, hφ4⟩ := frag_take (φ := φ) hnd (fun i hi => by rw [hnφ]; exact hlt i hi)
  obtain ⟨ρc, hρc⟩ : ∃ ρc, ρc = σc.map fun i => ρ.getD i undef := ⟨_, rfl⟩
  obtain ⟨φc, hφc⟩ : ∃ φc, φc = σc.map fun i => φ.getD i [] := ⟨_, rfl⟩
  rw [← hφc] at hφ4
  have hfwd : ∀ (i j : Nat) (u : Value), (n :: σc)[i]? = some j → ρ[j]? = some u → (undef :: ρc)[i]? = some u := by
    intro i j u hi hj
    cases i with
    | zero =>
      simp at hi; subst hi
      have := (List.getElem?_eq_some_iff.1 hj).1
      omega
    | succ i =>
      simp only [List.getElem?_cons_succ] at hi ⊢
      rw [hρc, List.getElem?_map, hi, Option.map_some, List.getD_eq_getElem?_getD, hj]; rfl
  have hws' : RepL m (undef :: ρc) caps1 ws := by
    refine renL_fwd hfwd caps1 ?_
    rw [hcaps]; exact hws
  have hlen : σc.length = H1.length := by simpa using congrArg List.length hH1
  intro a ha hgd
  rw [hro]
  refine wpIn_rangeFunc ?_
  intro fn hfn
  obtain ⟨rec, hrec⟩ : ∃ rec : LoopState → Option Code → Loop, rec = fun st pe => { state := st, pending := pe, fn, tmps := a.tmps, params := ps.toArray, assign, body, defers := w.heap.size } := ⟨_, rfl⟩
  obtain ⟨W1, hW1⟩ : ∃ W1, (w.alloc (.deferred (some []))).alloc (.loop (rec .ready none)) = W1 := ⟨_, rfl⟩
  obtain ⟨L, hL⟩ : ∃ L, L = w.heap.size + 1 := ⟨_, rfl⟩
  have hL1 : W1.heap[L]? = some (.loop (rec .ready none)) := by
    rw [← hW1, hL]; have := World.alloc_heap_new (w.alloc (.deferred (some []))) (.loop (rec .ready none)); rwa [World.size_alloc] at this
  have hK1 : W1.heap[w.heap.size]? = some (.deferred (some [])) := by
    rw [← hW1]; exact (Below.heap_alloc _ _ _ (by simp)).trans (World.alloc_heap_new w _)
  have hb1 : Below w.heap.size w W1 := by
    rw [← hW1]; exact (((Below.refl _ w).alloc (Nat.le_refl _) _).alloc (by simp) _)
  have hs1 : W1.heap.size = w.heap.size + 2 := by rw [← hW1]; simp
  have hwL : w.heap.size ≤ L := by omega
  -- the rounds
  obtain ⟨G, hG⟩ : ∃ G : σ → Mem → Frag → Prop, G = fun s => gsr L (.loop (rec .ready none)) (gst m ρk (H s) n) := ⟨_, rfl⟩
  obtain ⟨Gx, hGx⟩ : ∃ Gx : R → Mem → Frag → Prop, Gx = fun r m1 f => ∃ c, jumpOf (ek r) = some c ∧ gsr L (.loop (rec .done (some c))) (gst m ρk (Hx r) (nx r)) m1 f := ⟨_, rfl⟩
  have hyield : ∀ s x so, q s x = some so → YieldsX P L (enc x) (match so with | .inl _ => true | .inr _ => false) (G s) (Sum.elim G Gx so) := by
    intro s x so hq e V m1 f F vs hvs ⟨m0, hm0, hg0⟩ hsh
    rw [hG] at hg0
    obtain ⟨f0, rfl, hm2, ρ1, φ1, hp1, hn1, hn2, ho1, rfl⟩ := hg0
    have hl : V.heap[L]? = some (.loop (rec .ready none)) := hsh.own (L, _) (by simp)
    have hC : inC e L := hsh.noctl (L, .loop (rec .ready none)) (by simp) rfl
    have hy := run_yield (P := P) (args := vs.toArray) hl (by
      rw [hrec]
      have h1 := Nat.eq_of_beq_eq_true (hps x)
      have h2 := hvs.len
      simp only [List.size_toArray]
      omega)
    rw [hrec] at hy
    obtain ⟨ex, hexd⟩ : ∃ ex : Nat → Prop, ex = fun k => inC e k ∧ k ≠ L := ⟨_, rfl⟩
    have hexl : ∀ {W : World}, e.heap.size ≤ W.heap.size → ∀ x, ex x → x < W.heap.size := fun h x hx => by rw [hexd] at hx; exact Nat.lt_of_lt_of_le (inC_lt hx.1) h
    have hexL : ¬ ex L := by rw [hexd]; exact fun h => h.2 rfl
    have hexi : ∀ k, ex k → inC e k := fun k h => by rw [hexd] at h; exact h.1
    have hHX : ∀ o, HX ex ⟨e, m1, ρk, (L, o) :: F⟩ := fun o k hk => by
      by_cases e1 : k = L
      · subst e1; exact .inr ⟨o, by simp⟩
      · exact .inl (by rw [hexd]; exact ⟨hk, e1⟩)
    have hshA : SH e V m1 (φ1.flatten ++ ((L, .loop (rec .ready none)) :: F)) := hsh.perm (by simpa using List.perm_middle.symm)
    have hcb : Conc ⟨e, m1, ρk, (L, .loop (rec .ready none)) :: F⟩ ⟨zipA l ps (enc x), H s, n⟩ (zipFr fr ps vs) V m1 ρ1 φ1 := by
      refine ⟨Mem.le_refl _, hp1, hn1, hn2, zip_rep (fun t a ht => ?_) (RepL.mono (Mem.le_refl _) (fun i h hi => by simp at hi) _ hvs), fun i h f h1 h2 => (ho1 i h f h1 h2).mono hm0 (fun _ _ h => h), hshA⟩
      obtain ⟨v, h1, h2⟩ := hsl t a ht
      exact ⟨v, h1, RepA.mono (hm2.trans hm0) hp1 a h2⟩
    have hXm : X.m.le m1 := hc.mle.trans (hm2.trans hm0)
    have hst := hbody V L ⟨e, m1, ρk, (L, .loop (rec .ready none)) :: F⟩ ex hXm hρkl (hHX _) s x so hq _ _ _ _ _ hcb { tmps := (ps.toArray.zip vs.toArray).foldl (fun t (p, v) => t.setIfInBounds p v) a.tmps, defers := [] } (by
        have := zip_hold (N := ⟨N.n, some L, V, ex, false⟩) (ps := ps) (vs := vs) (l := fr) (tm := a.tmps) (ds := []) hpn ⟨ha.size, ha.slot⟩
        simpa using this)
      ⟨DK.refl, Nat.le_refl _, hexl hsh.esz, ⟨[], rfl, fun _ => rfl, List.nodup_nil, fun D h => by cases h⟩, fun l0 h0 => by cases h0; exact ⟨hexL, _, hl⟩⟩
    refine ⟨fn, _, assign, body, hy, roundIn_of_wpIn (F := FW none) hfn (wpIn_mono hst ?_)⟩
    rintro xe a1 V1 ⟨l1, hl1, g1, st1, m3, ρ3, φ3, hc3, rfl, q1⟩
    have hr1 : V1.heap[L]? = some (.loop (rec .ready none)) := hc3.sh.own (L, _) (by simp)
    have hbr := run_beginRound (P := P) hr1 (by rw [hrec])
    obtain ⟨V2, hV2⟩ : ∃ V2, V1.putObj L (.loop { rec .ready none with state := .busy }) = V2 := ⟨_, rfl⟩
    rw [hV2] at hbr
    have hs2 : V1.heap.size = V2.heap.size := by rw [← hV2]; simp
    have hd1 : a1.defers = [] := by
      obtain ⟨Ds, e1, e2, _⟩ := g1.marks
      rw [e1, e2 rfl]; rfl
    have hsh2 : SH e V2 m3 (φ3.flatten ++ ((L, .loop { rec .ready none with state := .busy }) :: F)) := by
      have h1 : SH e V1 m3 ((L, .loop (rec .ready none)) :: (φ3.flatten ++ F)) := hc3.sh.perm List.perm_middle
      have h2 := h1.putC (o' := .loop { rec .ready none with state := .busy }) hC
      rw [hV2] at h2
      exact h2.perm List.perm_middle.symm
    have hcb2 : Conc ⟨e, m1, ρk, (L, .loop { rec .ready none with state := .busy }) :: F⟩ st1 l1 V2 m3 ρ3 φ3 := ⟨hc3.mle, hc3.pre, hc3.nρ, hc3.nφ, hc3.slots, hc3.objs, hsh2⟩
    have hr2 : V2.heap[L]? = some (.loop { rec .ready none with state := .busy }) := hsh2.own (L, _) (by simp)
    refine ⟨V2, hbr, wpIn_mono (q1 V2 ⟨e, m1, ρk, (L, .loop { rec .ready none with state := .busy }) :: F⟩ ex hXm hρkl (hHX _) _ _ _ _ _ hcb2 a1 ⟨hl1.size, hl1.slot⟩
      ⟨DK.refl, Nat.le_refl _, hexl hsh2.esz, ⟨[], hd1, fun _ => rfl, List.nodup_nil, fun D h => by cases h⟩, fun l0 h0 => by cases h0; exact ⟨hexL, _, hr2⟩⟩) ?_⟩
    rintro xe a3 V3 ⟨l3, hl3, g3, st3, m4, ρ4, φ4, hc4, q3⟩
    have h13 : V.heap.size ≤ V1.heap.size := g1.size
    have h23 : V2.heap.size ≤ V3.heap.size := g3.size
    have hfin : ∀ (jump : Option Code) (H' : AH) (n : Nat) (l3 : Fr) (m5 : Mem) (ρ5 : List Value) (φ5 : List Frag), Conc ⟨e, m1, ρk, (L, .loop { rec .ready none with state := .busy }) :: F⟩ ⟨[], H', n⟩ l3 V3 m5 ρ5 φ5 →
        ∃ V4, (Instr.endRound L jump).run P V3 = .ok (.bool jump.isNone) V4 ∧ DK (inC e) V V4 ∧ V.heap.size ≤ V4.heap.size ∧ ∃ m' f', m1.le m' ∧ gsr L (.loop (rec (if jump.isNone then .ready else .done) jump)) (gst m ρk H' n) m' f' ∧ SH e V4 m' (f' ++ F) := by
      intro jump H' n l3 m5 ρ5 φ5 hc5
      have hr3 : V3.heap[L]? = some (.loop { rec .ready none with state := .busy }) := hc5.sh.own (L, _) (by simp)
      have hend := run_endRound (P := P) jump hr3
      refine ⟨_, hend, ?_, by simp; omega, m5, (L, .loop (rec (if jump.isNone then .ready else .done) jump)) :: φ5.flatten, hc5.mle, ⟨_, rfl, (hm2.trans hm0).trans hc5.mle, ρ5, φ5, hc5.pre, hc5.nρ, hc5.nφ, hc5.objs, rfl⟩, ?_⟩
      · refine (((g1.dk.weak hexi).trans ?_).trans (g3.dk.weak hexi)).trans (dk_putC hC)
        rw [← hV2]; exact dk_putC hC
      · have h1 : SH e V3 m5 ((L, .loop { rec .ready none with state := .busy }) :: (φ5.flatten ++ F)) := hc5.sh.perm List.perm_middle
        have h2 := h1.putC (o' := .loop (rec (if jump.isNone then .ready else .done) jump)) hC
        have h3 : ({ rec .ready none with state := if jump.isNone then .ready else .done, pending := jump } : Loop) = rec (if jump.isNone then .ready else .done) jump := by rw [hrec]
        simpa [hrec] using h2
    cases so with
    | inl s' =>
      obtain ⟨rfl, hw⟩ := q3
      obtain ⟨m5, ρ5, φ5, hc5⟩ := hw _ _ _ _ _ hc4
      obtain ⟨V4, f1, f2, f3, f4⟩ := hfin none (H s') n _ _ _ _ hc5
      refine ⟨_, V4, f1, rfl, f2, f3, ?_⟩
      rw [hG]; simpa using f4
    | inr r =>
      obtain ⟨rfl, hw⟩ := q3
      obtain ⟨m5, ρ5, φ5, hc5⟩ := hw _ _ _ _ _ hc4
      have hj := hek r
      cases hr : ek r with
      | ret =>
        obtain ⟨V4, f1, f2, f3, m', f', f4, f5, f6⟩ := hfin (some .ret) (Hx r) (nx r) _ _ _ _ hc5
        exact ⟨_, V4, f1, rfl, f2, f3, m', f', f4, by rw [hGx]; exact ⟨.ret, by rw [hr]; rfl, f5⟩, f6⟩
      | exit id =>
        obtain ⟨V4, f1, f2, f3, m', f', f4, f5, f6⟩ := hfin (some (.exit id)) (Hx r) (nx r) _ _ _ _ hc5
        exact ⟨_, V4, f1, rfl, f2, f3, m', f', f4, by rw [hGx]; exact ⟨.exit id, by rw [hr]; rfl, f5⟩, f6⟩
      | _ => rw [hr] at hj; cases hj
  -- the call
  have hsh1 : SH X.e W1 m (φ.flatten ++ X.F) := hc.sh.ext hb1
  have hfw : ∀ p ∈ φ.flatten ++ X.F, p.1 < w.heap.size := fun p hp => hc.sh.lt hp
  have hmL : ∀ b, w.heap.size ≤ b → m b = none := fun b hb => by
    cases hx : m b with
    | none => rfl
    | some o' => have := (Array.getElem?_eq_some_iff.1 (hc.sh.fz _ _ hx)).1; omega
  obtain ⟨e2, he2⟩ : ∃ e2, e2 = eWith X.e W1.heap.size (fun k => k = L ∨ ∃ o, (k, o) ∈ φ.flatten ++ X.F ∧ ctl o = true) := ⟨_, rfl⟩
  have hin2 : ∀ k, inC e2 k ↔ k < W1.heap.size ∧ (k = L ∨ ∃ o, (k, o) ∈ φ.flatten ++ X.F ∧ ctl o = true) := fun k => by rw [he2]; exact inC_eWith
  have hs2 : e2.heap.size = W1.heap.size := by rw [he2]; exact eWith_size
  have heo : e2.os = X.e.os ∧ e2.tape = X.e.tape ∧ e2.output = X.e.output := by rw [he2]; exact ⟨rfl, rfl, rfl⟩
  have hinX : ∀ k, inC e2 k → k ≠ L → inC X.e k := fun k hk hne => by
    rcases ((hin2 k).1 hk).2 with h | ⟨o', h1, h2⟩
    · exact absurd h hne
    · exact hc.sh.noctl (k, o') h1 h2
  have hshL : SH e2 W1 m ((L, .loop (rec .ready none)) :: (φ.flatten ++ X.F)) := hsh1.newC hL1 (fun p hp => by have := hfw p hp; omega) (hmL L hwL) heo.1 heo.2.1 heo.2.2 ((hin2 L).2 ⟨by omega, .inl rfl⟩)
    (fun p hp hpc => (hin2 _).2 ⟨by have := hfw p hp; omega, .inr ⟨p.2, hp, hpc⟩⟩) (by rw [hs2]; exact Nat.le_refl _)
  have hshC : SH e2 W1 m ((((L, .loop (rec .ready none)) :: φ0.flatten) :: φc).flatten ++ X.F) := by
    refine hshL.perm ?_
    rw [List.flatten_cons, List.cons_append, List.cons_append]
    refine List.Perm.cons _ ?_
    exact List.Perm.append_right _ (hφ4.trans List.perm_append_comm)
  have hG0 : G s0 m ((L, .loop (rec .ready none)) :: φ0.flatten) := by
    rw [hG]
    refine ⟨_, rfl, Mem.le_refl _, ρ, φ0, hρkp, hnρ, by rw [hφ1]; exact hnφ, fun i h f hi hf => ?_, rfl⟩
    have hin : i < n := by rw [← hnρ]; exact (List.getElem?_eq_some_iff.1 hi).1
    have e1 := congrArg (fun l => l[i]?) hH0
    simp only [List.getElem?_map, List.getElem?_range hin, Option.map_some, Option.some.injEq] at e1
    rw [e1]
    by_cases hm : i ∈ σc
    · rw [hφ2 i hm] at hf; cases hf
      have : σc.contains i = true := by simpa using hm
      rw [this]; rfl
    · rw [hφ3 i hm] at hf
      have : σc.contains i = false := by simpa using hm
      rw [this]
      exact hc.objs i h f hi hf
  have hos1 : OsRep m (undef :: ρc) (.guest (G s0) :: H1) (((L, .loop (rec .ready none)) :: φ0.flatten) :: φc) := by
    refine ⟨by simp [hρc, hlen], by simp [hφc, hlen], fun i o' h f hi hh hf => ?_⟩
    cases i with
    | zero => simp at hi hf; subst hi hf; exact ⟨m, Mem.le_refl _, hG0⟩
    | succ i =>
      simp only [List.getElem?_cons_succ] at hi hh hf
      have hil : i < σc.length := by rw [hlen]; exact (List.getElem?_eq_some_iff.1 hi).1
      have hσi : σc[i]? = some (σc[i]'hil) := List.getElem?_eq_getElem hil
      have hn := hlt _ (List.getElem_mem hil)
      have e1 := congrArg (fun l => l[i]?) hH1
      simp only [List.getElem?_map, hσi, hi, Option.map_some, Option.some.injEq] at e1
      have hρi : ρ[σc[i]'hil]? = some (ρ[σc[i]'hil]'(by rw [hnρ]; exact hn)) := List.getElem?_eq_getElem _
      have hφi : φ[σc[i]'hil]? = some (φ[σc[i]'hil]'(by rw [hnφ]; exact hn)) := List.getElem?_eq_getElem _
      have h1 := hc.objs _ _ _ hρi hφi
      have h1' : ORep m ρ (H0.get (σc[i]'hil)) _ _ := h1
      rw [e1] at h1'
      have h2 := h1'.fwd hfwd
      have eh : h = ρ[σc[i]'hil]'(by rw [hnρ]; exact hn) := by
        rw [hρc, List.getElem?_map, hσi, Option.map_some, List.getD_eq_getElem?_getD, hρi] at hh; exact (Option.some.inj hh).symm
      have ef : f = φ[σc[i]'hil]'(by rw [hnφ]; exact hn) := by
        rw [hφc, List.getElem?_map, hσi, Option.map_some, List.getD_eq_getElem?_getD, hφi] at hf; exact (Option.some.inj hf).symm
      rw [eh, ef]; exact h2
  have hcall := hit L G Gx (fun s x s' h => hyield s x (.inl s') h) (fun s x r h => hyield s x (.inr r) h) e2 W1 m (undef :: ρc) (((L, .loop (rec .ready none)) :: φ0.flatten) :: φc) X.F (.func (.yield L) #[] #[] :: ws) hc.mle
    (by simp only [RepL, RepA]; exact ⟨trivial, hws'⟩) hos1 hshC
  refine ⟨L, [Eng.mark w.heap.size], W1, { target := .fn (.func gf) ws.toArray, args := #[.func (.yield L) #[] #[]] }, W1, gf, (.func (.yield L) #[] #[] :: ws).toArray, W1, ?_, ?_, ?_, ?_, (fun h => by simp [FW] at h), ?_⟩
  · rw [← hW1, hrec, hL]; exact run_enterLoop_outer _ _ _ _ _
  · simp only [resolve, ha.eval hgv]
    simp [go_sem]
  · intro f' hf'; trivial
  · have he := hE (#[.func (.yield L) #[] #[]] ++ ws.toArray) W1
    simp only [invoke]
    have e2 : (#[Value.func (.yield L) #[] #[]] ++ ws.toArray : Array Value) = (.func (.yield L) #[] #[] :: ws).toArray := by simp
    rw [e2] at he
    simpa [go_sem, e2] using he
  · have hholds : Eng.Holds N fr { a with defers := [Eng.mark w.heap.size] ++ a.defers } := ⟨ha.size, ha.slot⟩
    refine CallsIn.mono (calls_FW hcall) ?_
    rintro en W ⟨v, rfl, ⟨hdk, hsz⟩, rs, H', m', ρ', φ', ⟨rfl, Hc, rfl⟩, hm', _, _, hos, hshW, _, _, _⟩
    obtain ⟨h, hh⟩ : ∃ h, ρ'[0]? = some h := ⟨_, List.getElem?_eq_getElem (by rw [hos.nρ]; exact Nat.succ_pos _)⟩
    obtain ⟨fG, hf⟩ : ∃ f, φ'[0]? = some f := ⟨_, List.getElem?_eq_getElem (by rw [hos.nφ]; exact Nat.succ_pos _)⟩
    obtain ⟨φr, rfl⟩ : ∃ φr, φ' = fG :: φr := by
      cases φ' with
      | nil => simp at hf
      | cons f r => simp at hf; exact ⟨r, by rw [hf]⟩
    obtain ⟨m0, hm0, hg1⟩ := hos.at_ 0 _ h fG rfl hh hf
    have hKn : ¬ inC e2 w.heap.size := fun hi => by
      rcases ((hin2 _).1 hi).2 with h | ⟨o', h1, _⟩
      · omega
      · have := hfw _ h1; simp at this
    have hD : W.heap[w.heap.size]? = some (.deferred (some [])) := hdk _ _ hK1 rfl hKn
    -- how it ends
    have hend : ∀ (j : Option Code) (H2 : AH) (n : Nat), gsr L (.loop (rec (if j.isNone then .ready else .done) j)) (gst m ρk H2 n) m0 fG →
        ∃ W', (Instr.endLoop L).run P W = .ok j W' ∧ Eng.Good N { a with defers := [Eng.mark w.heap.size] ++ a.defers } W' ∧ ∃ m5 ρ5 φ5, Conc X ⟨l, H2, n⟩ fr W' m5 ρ5 φ5 := by
      rintro j H2 n ⟨f0, rfl, hm2, ρ1, φ1, hp1, hn1, hn2, ho1, rfl⟩
      have hl : W.heap[L]? = some (.loop (rec (if j.isNone then .ready else .done) j)) := hshW.own (L, _) (by simp)
      have h1 := run_endLoop (P := P) hl (by rw [hrec]; cases j <;> simp)
      have hdrop : SH e2 W m' ((L, .loop (rec (if j.isNone then .ready else .done) j)) :: (φ1.flatten ++ X.F)) := by
        have h2 : SH e2 W m' (φr.flatten ++ ((L, .loop (rec (if j.isNone then .ready else .done) j)) :: (φ1.flatten ++ X.F))) := by
          refine hshW.perm ?_
          rw [List.flatten_cons, List.append_assoc, List.cons_append]
          refine (List.Perm.cons _ (?_ : (φ1.flatten ++ (φr.flatten ++ X.F)).Perm (φr.flatten ++ (φ1.flatten ++ X.F)))).trans List.perm_middle.symm
          rw [← List.append_assoc, ← List.append_assoc]
          exact List.Perm.append_right _ List.perm_append_comm
        exact h2.tail
      have hnL : ∀ p ∈ φ1.flatten ++ X.F, p.1 ≠ L := by
        intro p hp he
        have hnd := hdrop.nd
        rw [List.map_cons, List.nodup_cons] at hnd
        exact hnd.1 (List.mem_map.2 ⟨p, hp, he⟩)
      refine ⟨W.putObj L (.loop { rec (if j.isNone then .ready else .done) j with state := .exhausted }), by rw [h1]; rw [hrec], ?_, m', ρ1, φ1, ?_⟩
      · have hstep : DK N.ex w (W.putObj L (.loop { rec (if j.isNone then .ready else .done) j with state := .exhausted })) := by
          intro k' o' hk1 hc1 hx
          have hlt : k' < w.heap.size := (Array.getElem?_eq_some_iff.1 hk1).1
          refine (World.putObj_heap_other (by omega)).trans ?_
          have hk2 : W1.heap[k']? = some o' := (hb1.block k' hlt).trans hk1
          by_cases hi : inC e2 k'
          · rcases hxe k' (hinX k' hi (by omega)) with he | ⟨o'', ho''⟩
            · exact absurd he hx
            · have h3 := hc.sh.own (k', o'') (List.mem_append.2 (.inr ho''))
              have h4 := hdrop.own (k', o'') (List.mem_cons_of_mem _ (List.mem_append.2 (.inr ho'')))
              simp only at h3 h4
              rw [hk1] at h3; cases h3; exact h4
          · exact hdk k' o' hk2 hc1 hi
        have hgw := hgd.step (a' := a) rfl hstep (by simp; omega)
        obtain ⟨Ds, d1, d2, d3, d4⟩ := hgw.marks
        have hDn : w.heap.size ∉ Ds := by
          intro hm
          obtain ⟨Ds', e1, _, _, e4⟩ := hgd.marks
          have : Ds = Ds' := by
            have := d1.symm.trans e1
            have hinj : ∀ x y, Eng.mark x = Eng.mark y → x = y := by intro x y h; simpa [Eng.mark] using h
            exact (List.map_inj_right hinj).1 this
          subst this
          have := (Array.getElem?_eq_some_iff.1 (e4 _ hm).2.2).1
          omega
        refine ⟨hgw.dk, hgw.size, hgw.exlt, ⟨w.heap.size :: Ds, by simp [d1], (fun h => by rw [hmr] at h; cases h), List.nodup_cons.2 ⟨hDn, d3⟩, fun D hm => ?_⟩, hgw.rnd⟩
        rcases List.mem_cons.1 hm with rfl | hm
        · refine ⟨hgd.size, fun e => ?_, (World.putObj_heap_other (by omega)).trans hD⟩
          have := hgd.exlt _ e
          have := hgd.size
          omega
        · exact d4 D hm
      · have hC2 : inC e2 L := (hin2 L).2 ⟨by omega, .inl rfl⟩
        have h5 := (hdrop.putC (o' := .loop { rec (if j.isNone then .ready else .done) j with state := .exhausted }) hC2).tail (f := [(L, .loop { rec (if j.isNone then .ready else .done) j with state := .exhausted })])
        have h6 : SH X.e (W.putObj L (.loop { rec (if j.isNone then .ready else .done) j with state := .exhausted })) m' (φ1.flatten ++ X.F) :=
          h5.at_e heo.1.symm heo.2.1.symm heo.2.2.symm (fun p hp hpc => hinX _ (h5.noctl p hp hpc) (hnL p hp)) (by have := hc.sh.esz; simp; omega)
        refine ⟨hc.mle.trans hm', fun i h hi => hp1 i h ?_, hn1, hn2, fun t a ht => ?_, fun i h f h1 h2 => (ho1 i h f h1 h2).mono hm0 (fun _ _ h => h), h6⟩
        · have hi1 := (List.getElem?_eq_some_iff.1 hi).1
          rw [hρk, List.getElem?_take, if_pos (by omega)]
          exact hc.pre i h hi
        · obtain ⟨v, g1, g2⟩ := hsl t a ht
          exact ⟨v, g1, RepA.mono hm' hp1 a g2⟩
    cases o with
    | inl s1 =>
      have hg2 : gsr L (.loop (rec .ready none)) (gst m ρk (H s1) n) m0 fG := by rw [hG] at hg1; exact hg1
      obtain ⟨W', h1, h2, m5, ρ5, φ5, h3⟩ := hend none (H s1) n hg2
      exact ⟨none, W', h1, fr, hholds, h2, _, m5, ρ5, φ5, h3, hdone s1 rfl⟩
    | inr r =>
      have hg2 : ∃ c, jumpOf (ek r) = some c ∧ gsr L (.loop (rec .done (some c))) (gst m ρk (Hx r) (nx r)) m0 fG := by rw [hGx] at hg1; exact hg1
      obtain ⟨c, hj, hg3⟩ := hg2
      obtain ⟨W', h1, h2, m5, ρ5, φ5, h3⟩ := hend (some c) (Hx r) (nx r) hg3
      have hq := hstop r rfl
      refine ⟨some c, W', h1, ?_⟩
      cases hr : ek r with
      | ret => rw [hr] at hj hq; simp [jumpOf] at hj; subst hj; exact wpIn_ret ⟨fr, hholds, h2, _, m5, ρ5, φ5, h3, hq⟩
      | exit id => rw [hr] at hj hq; simp [jumpOf] at hj; subst hj; exact wpIn_exit ⟨fr, hholds, h2, _, m5, ρ5, φ5, h3, hq⟩
      | _ => rw [hr] at hj; simp [jumpOf] at hj
end
theorem ranged {P : Program} {n L : Nat} {X : Cx} {k : Nat} {body : Code} {Q : Cx → APost} {st : AS} (h : ∀ (w0 : World) (X2 : Cx) (ex : Nat → Prop), X.m.le X2.m → X2.ρ.length = k → HX ex X2 → AWC P ⟨n, some L, w0, ex, false⟩ X2 body (Q X2) st) :
    (fun (e : Exit) (st1 : AS) => e = .normal ∧ ∀ (w0 : World) (X2 : Cx) (ex : Nat → Prop), X.m.le X2.m → X2.ρ.length = k → HX ex X2 → AWC P ⟨n, some L, w0, ex, false⟩ X2 body (Q X2) st1) .normal st := ⟨rfl, h⟩
/-- An iterator's end. -/
theorem ret_i {P : Program} {X : Cx} {k n : Nat} {st : AS} {l' : AFr} {Hs : AH} {p : Mem → Frag → Prop} {Hc : List AO} (h : Wk X st ⟨l', Hs, n⟩) (hH : (List.range n).map (AH.get Hs) = .guest p :: Hc) (hk : Nat.ble k n = true) : retW P X [] k (fun q Hq => q = [] ∧ ∃ Hc, Hq = .guest p :: Hc) .ret st :=
  ⟨⟨l', Hs, n⟩, h, [], _, trivial, rfl, hk, rfl, Hc, hH⟩
end Go.Ab


set_option linter.unusedVariables false
set_option linter.unusedSimpArgs false
namespace Go.Ab
open Go.RowKit Go.Shelf Go.Proofs Go.Eng

section
variable {P : Program} {N : Ev} {X : Cx} {Q : APost} {st : AS}
variable {d : Nat} {T U T' : TypeId} {pos : String} {aft : Array Edge} {g : Option (Nat × Bool)} {x y : Operand}

/-- A literal slice that the call owns. -/
theorem aop_buildSlice {E n : Nat} {t : Ty} {ps : List (Nat × Operand)} {qs : List (Nat × List AV)} {zs cs : List AV} {ys : List t.den} {K : AS → Prop} (hT : BuildS P T E t) (hx : evas st.l ps = qs.map some) (hz : ((List.replicate n (zeroV t)).flatten).map ofV1 = zs) (hl : layA (fun i => some (i * t.cells, t.cells)) zs qs = some cs) (hy : (ys.map (expl t)).flatten = cs) (hn : Nat.beq ys.length n = true) (hc : Nat.ble (n * t.cells) 16777216 = true) (hc1 : Nat.ble n 16777216 = true) (hno : (ys.all fun y => t.fit y) = true)
    (k : K (st.new d (.osl st.n) (.sl E t ys))) (hN : Nat.blt d N.n = true := by rfl) :
    AOp P N X ⟨some d, .buildSlice T n ps.toArray, U, pos, aft, g⟩ K st :=
  aop_of fun Q fr w m ρ φ hcc K' hK => by
  obtain ⟨vs, h1, h2, h3⟩ := hcc.evs hx
  have hzl := run_buildSlice (w := w) (ps := vs.toArray) hT hc (us := #[])
  have hz' : ∀ (l : List Value), RepL m ρ (l.map ofV1) l := by
    intro l
    induction l with
    | nil => simp [RepL]
    | cons v l ih => simp only [List.map_cons, RepL]; exact ⟨rep_ofV1 m ρ v, ih⟩
  obtain ⟨zz, hzz, _⟩ := hzl
  obtain ⟨us, h6, h7, h8⟩ := lay_fill (us := zz) hl h2 h3 (by rw [← hz, hzz]; exact hz' _) (by
    rw [hzz]; intro u hu
    obtain ⟨r, hr, hur⟩ := List.mem_flatten.1 hu
    rw [List.eq_of_mem_replicate hr] at hur
    exact zeroV_one t u hur)
  obtain ⟨zz', hzz', hrun⟩ := run_buildSlice (w := w) (ps := vs.toArray) hT hc (us := us)
  have hzeq : zz' = zz := Array.toList_inj.1 (hzz'.trans hzz.symm)
  subst hzeq
  have hr := hrun (by simpa using h6)
  have hn' := Nat.eq_of_beq_eq_true hn
  refine op_val (v := .slice (some ⟨w.heap.size, 0, none⟩) n n) rfl hN (fun s hs => ?_) ?_ (dk_new (new_push w (.cells us E)))
  · have e := evos_eval hs h1
    simp only [execOp, List.map_toArray, Sem.run_bind]
    rw [show (List.map (fun (x : Nat × Operand) => match x with | (i, x) => (i, s.eval x)) ps) = vs from e, hr]
    rfl
  · have hs := hcc.sh.alloc (new_push w (.cells us E)) rfl
    have hrows : RowsC m t ys us.toList := by rw [← hy] at h7; exact rows_of_expl hno h7
    have h47 : cap47 = 140737488355328 := rfl
    have hc1' := Nat.le_of_ble_eq_true hc1
    have hlen := hrows.len
    refine hK _ _ _ _ _ _ (hcc.newObj (h := .slice (some ⟨w.heap.size, 0, none⟩) n n) (f := [(w.heap.size, .cells us E)]) (Mem.le_refl _) hs ?_ ?_) k
    · refine ⟨by omega, .inr ⟨w.heap.size, n, us, us.toList, by rw [hn'], rfl, by omega, by simp only [maxLen]; omega, by rw [← hn', ← hlen]; simp, hrows, by rw [← hlen, List.take_length]⟩⟩
    · simp only [RepA]
      exact ⟨by rw [← hcc.nρ]; simp, rfl⟩
end
end Go.Ab


set_option linter.unusedVariables false
set_option linter.unusedSimpArgs false
namespace Go.Ab
open Go.RowKit Go.Shelf Go.Proofs Go.Eng

/-! the kit's contracts of rows, of what is handed in -/
/-- Elements of one cell. -/
structure Enc1 (t : Ty) (enc : t.den → Value) : Prop where
  one : t.cells = 1
  rc : ∀ m x, RC m t x [enc x]
  uniq : ∀ m x vs, RC m t x vs → vs = [enc x]

theorem OsRep.one {m : Mem} {ρ : List Value} {o : AO} {φ : List Frag} (H : OsRep m ρ [o] φ) : ∃ h f, ρ = [h] ∧ φ = [f] ∧ ORep m ρ o h f := by
  have h1 := H.nρ
  have h2 := H.nφ
  match ρ, φ, h1, h2 with
  | [h], [f], _, _ => exact ⟨h, f, rfl, rfl, H.at_ 0 o h f rfl rfl rfl⟩

end Go.Ab


set_option linter.unusedVariables false
set_option linter.unusedSimpArgs false
namespace Go.Eng
open Go.RowKit Go.Shelf Go.Proofs

/-! regions told where an operation reads a slot that a later one writes -/
section
variable {P : Program} {N : Ev} {Q : Post} {l : Fr} {w : World}
/-- What is listed has what it waits for listed. -/
def ShutX (ops : List Oper) (listed : Array Bool) : Prop := ∀ (i : Nat) (o : Oper), ops[i]? = some o → listed[i]? = some true → ∀ e ∈ o.after, Region.binds .any e = true → listed[e.on]? = some true
def ObsX (P : Program) (N : Ev) (S : World → World → Prop) (ops : List Oper) (Φ : List VP) (Q : Post) (w : World) : List Oper → List VP → List (List Nat) → List Fr → Prop
  | o :: os, φ :: φs, js :: jss, b :: bs => (∀ W, S w W → Gather (depAt ops Φ js) b W fun l => OpG P N S ops o φ Q l W) ∧ ObsX P N S ops Φ Q w os φs jss bs
  | _, _, _, _ => True
theorem ObsX.at {S : World → World → Prop} {ops : List Oper} {Φ : List VP} {os : List Oper} : ∀ {φs : List VP} {jss : List (List Nat)} {bs : List Fr}, ObsX P N S ops Φ Q w os φs jss bs → ∀ {i : Nat} {o : Oper} {φ : VP} {js : List Nat} {b : Fr}, os[i]? = some o → φs[i]? = some φ → jss[i]? = some js → bs[i]? = some b →
    ∀ W, S w W → Gather (depAt ops Φ js) b W fun l => OpG P N S ops o φ Q l W := by
  induction os with
  | nil => intro φs jss bs _ i o φ js b h; simp at h
  | cons o' os ih =>
    intro φs jss bs h i o φ js b h1 h2 h3 h4
    cases φs with
    | nil => simp at h2
    | cons φ' φs =>
      cases jss with
      | nil => simp at h3
      | cons js' jss =>
        cases bs with
        | nil => simp at h4
        | cons b' bs =>
        cases i with
        | zero => simp at h1 h2 h3 h4; subst h1 h2 h3 h4; exact h.1
        | succ i => simp at h1 h2 h3 h4; exact ih h.2 h1 h2 h3 h4
theorem ObsX.drawn {S : World → World → Prop} (hS : SR S) {ops : List Oper} {Φ : List VP} {k : Nat} {os : List Oper} : ∀ {φs : List VP} {jss : List (List Nat)} {bs : List Fr}, ObsX P N S ops Φ Q w os φs jss bs → ObsX P N S ops Φ Q { w with drawn := k } os φs jss bs := by
  induction os with
  | nil => intro φs jss bs _; trivial
  | cons o os ih =>
    intro φs jss bs h
    cases φs with
    | nil => trivial
    | cons φ φs =>
      cases jss with
      | nil => trivial
      | cons js jss =>
        cases bs with
        | nil => trivial
        | cons b bs => exact ⟨fun W hW => h.1 W (hS.drawn _ _ _ hW), ih h.2⟩
structure MidX (N : Ev) (S : World → World → Prop) (ops : List Oper) (Φ : List VP) (lb lx : Fr) (w : World) (listed : Array Bool) (a : Act) (W : World) : Prop where
  below : S w W
  base : Holds N lb a
  late : ∀ t v, lx.look t = some v → (∀ (k : Nat) (o : Oper), ops[k]? = some o → o.dst = some t → listed[k]? ≠ some true) → a.tmps[t]? = some v
  good : Good N a W
  done : ∀ (i : Nat) (o : Oper) (φ : VP), ops[i]? = some o → Φ[i]? = some φ → listed[i]? = some true → toldA o φ a W
  shut : ShutX ops listed

end
end Go.Eng
namespace Go
section
variable {P : Program} {b : Frame} {a : Act} {k : List Item} {cs : List Frame} {w : World} {Q : Exit → Act → World → Prop} {F : Fence} {n : Nat}
end
end Go
namespace Go.Ab
open Go.RowKit Go.Shelf Go.Proofs Go.Eng
end Go.Ab
namespace Go.Ab
open Go.RowKit Go.Shelf Go.Proofs Go.Eng
section
variable {P : Program} {N : Ev} {X : Cx} {Q : APost} {st : AS}
/-- A nil slice in a variable that the call will own. -/
theorem wk_ownC {i o : Nat} {T : TypeId} {cs : List AV} (E : TypeId) (ty : Ty) (hH : st.H.get i = .var T cs) (hi : Nat.blt i st.n = true) (ho : cs[o]? = some .nils) : Wk X st ⟨st.l, (i, .var T (cs.set o (.osl st.n))) :: (st.n, .sl E ty []) :: st.H, st.n + 1⟩ := by
  intro fr w m ρ φ hc
  have hin : i < st.n := by simpa using hi
  have h3 := hc.newObj (d := 0) (av := .any) (v := undef) (h := .slice none 0 0) (o := .sl E ty []) (f := []) (Mem.le_refl _) (by simpa using hc.sh) ⟨by simp, .inl ⟨rfl, rfl, rfl⟩⟩ (by simp only [RepA])
  refine ⟨m, _, _, h3.mle, h3.pre, h3.nρ, h3.nφ, ?_, ?_, h3.sh⟩
  · intro q a hq
    obtain ⟨v, g1, g2⟩ := hc.slots q a hq
    exact ⟨v, g1, RepA.mono (Mem.le_refl _) pre_app a g2⟩
  · intro j hd f hj hf
    rw [AH.get_cons]
    split
    · rename_i e
      subst e
      have h4 := h3.objs i hd f hj hf
      have h5 : (AS.new st 0 .any (.sl E ty [])).H.get i = .var T cs := by
        show AH.get ((st.n, _) :: st.H) i = _
        rw [AH.get_cons, if_neg (by omega)]; exact hH
      rw [h5] at h4
      obtain ⟨b, us, g1, g2, g3, g4⟩ := h4
      refine ⟨b, us, g1, g2, ?_, g4⟩
      obtain ⟨u, hu, hr⟩ := g3.get ho
      simp only [RepA] at hr
      subst hr
      have h6 := g3.set (i := o) (a := .osl st.n) (v := .slice none 0 0) (by simp only [RepA]; exact ⟨by rw [← hc.nρ]; simp, rfl⟩)
      have h7 : us.set o (.slice none 0 0) = us := by
        apply List.ext_getElem?
        intro q
        rw [List.getElem?_set]
        split
        · rename_i e; subst e; rw [hu]; simp [(List.getElem?_eq_some_iff.1 hu).1]
        · rfl
      rw [h7] at h6
      exact h6
    · exact h3.objs j hd f hj hf
end
end Go.Ab


set_option linter.unusedVariables false
set_option linter.unusedSimpArgs false
namespace Go.Ab
open Go.RowKit Go.Shelf Go.Proofs Go.Eng

/-! own slices in an own slice -/
/-- A row is changed. -/
theorem RowsO.set {m : Mem} {T : TypeId} {t : Ty} {y : List t.den} {r : Value} {g : Frag} : ∀ {x : List (List t.den)} {rs : List Value} {fs : List Frag} {k : Nat}, RowsO m T t x rs fs → SlRep m T t y r g → RowsO m T t (x.set k y) (rs.set k r) (fs.set k g) := by
  intro x
  induction x with
  | nil => intro rs fs k h _; cases rs with
    | nil => cases fs with
      | nil => trivial
      | cons => exact h.elim
    | cons => exact h.elim
  | cons z x ih => intro rs fs k h hy; cases rs with
    | nil => exact h.elim
    | cons r' rs => cases fs with
      | nil => exact h.elim
      | cons f fs => cases k with
        | zero => exact ⟨hy, h.2⟩
        | succ k => exact ⟨h.1, ih h.2 hy⟩

section
variable {P : Program} {N : Ev} {X : Cx} {Q : APost} {st : AS}
variable {d : Nat} {T U T' : TypeId} {pos : String} {aft : Array Edge} {g : Option (Nat × Bool)} {x y : Operand} {k ky : IntKind} {a b : Int}

section
variable {m : Mem} {ρ ρ' : List Value} {i : Nat} {h : Value} {rs rs' : List Value}
end

end
end Go.Ab


set_option linter.unusedVariables false
set_option linter.unusedSimpArgs false
namespace Go.Eng
open Go.RowKit Go.Shelf Go.Proofs Go.ChangeShapes Go.WideShapes

/-! arguments as they are handed in -/
def BK : Type := Option (Option IntKind)
def BK.i (k : IntKind) : BK := some (some k)
def BK.s : BK := some none
def BK.b : BK := none
def BK.is (k : BK) (v : Value) : Prop := match k with
  | some (some k) => ∃ z, v = .int k z ∧ (Lit.int k z).wf = true
  | some none => ∃ z : ByteArray, v = .string z ∧ z.size ≤ maxLen
  | none => ∃ z, v = .bool z
section
variable {H : Type} {enc : TypeId × Value → H} {P : Program} {w : World} {base : Nat} {sp : Nat → Bool} {held : Bool} {n : Nat}
end
end Go.Eng


set_option linter.unusedVariables false
namespace Go.Ab
open Go.RowKit Go.Shelf Go.Proofs Go.Eng

/-! a law's call -/
theorem sh_law (W : World) : SH W W (allM W []) [] := ⟨rfl, rfl, rfl, fun b o hb => (of_allM hb).1, fun p hp => by simp at hp, by simp, fun p hp => by simp at hp, fun p hp => by simp at hp, fun b o hb => (of_allM hb).2, Nat.le_refl _⟩
end Go.Ab


set_option linter.unusedVariables false
namespace Go.Ab
open Go.RowKit Go.Shelf Go.Proofs Go.Eng Go.ChangeShapes Go.WideShapes

/-! arguments of any type of data, as they are handed in -/
mutual
/-- A type of the program is a type of data. -/
inductive TyOf (P : Program) : Ty → TypeId → Prop
  | int {k : IntKind} {T : TypeId} : P.underlying T = some (.int k) → TyOf P (.int k) T
  | bool {T : TypeId} : P.underlying T = some .bool → TyOf P .bool T
  | str {T : TypeId} : P.underlying T = some .string → TyOf P .str T
  | slice {e : Ty} {T E : TypeId} : P.underlying T = some (.slice E) → P.cellsOf E = e.cells → Nat.blt 0 e.cells = true → Nat.blt 0 (P.bytesOf E) = true → TyOf P e E → TyOf P (.slice e) T
  | st {a : Ty} {T : TypeId} {fs : Array Field} : P.underlying T = some (.struct fs) → P.cellsOf T = a.cells → FdOf P a (fs.toList.map fun f => (f.type, f.offset)) 0 → TyOf P (.st a) T
  | ar {a : Ty} {T E : TypeId} {n : Nat} : P.underlying T = some (.array n E) → P.cellsOf T = a.cells → FdOf P a ((List.range n).map fun i => (E, i * P.cellsOf E)) 0 → TyOf P (.st a) T
inductive FdOf (P : Program) : Ty → List (TypeId × Nat) → Nat → Prop
  | unit {o : Nat} : FdOf P .unit [] o
  | one {a : Ty} {T : TypeId} {o : Nat} : P.cellsOf T = a.cells → TyOf P a T → FdOf P a [(T, o)] o
  | cons {a b : Ty} {T : TypeId} {o : Nat} {q : TypeId × Nat} {r : List (TypeId × Nat)} : P.cellsOf T = a.cells → TyOf P a T → FdOf P b (q :: r) (o + a.cells) → FdOf P (.pair a b) ((T, o) :: q :: r) o
end

/-- What a datum that is handed in is. -/
def WF : (t : Ty) → t.den → Prop
  | .int k, x => (Lit.int k x).wf = true
  | .bool, _ => True
  | .str, x => x.length ≤ reachBytes
  | .unit, _ => True
  | .pair a b, x => WF a x.1 ∧ WF b x.2
  | .st a, x => WF a x
  | .slice e, (x : List e.den) => x.length ≤ reachBytes ∧ ∀ y ∈ x, WF e y
  | .arr _ e, (x : List e.den) => ∀ y ∈ x, WF e y
  | .raw _, _ => True
  | .map _ _, _ => True

section
variable {H : Type} {enc : TypeId × Value → H} {P : Program} {w : World} {held : Bool}

theorem cells_at {a : Addr} {base k : Nat} {cs : List Value} (h : w.cells? base a k = some cs) (hk : 0 < k) : a.spot = none ∧ CellsM (allM w []) a.block a.off cs := by
  obtain ⟨_, h5, h6⟩ := World.cells?_some h
  obtain ⟨b, o, sp⟩ := a
  have hspot : sp = none := by
    have g7 := h6 0 hk
    rw [List.getElem?_eq_getElem (by omega)] at g7
    simpa [Addr.add] using World.cell?_spot g7
  subst hspot
  refine ⟨rfl, fun j v hj => ?_⟩
  have hjl := (List.getElem?_eq_some_iff.1 hj).1
  have h1 := h6 j (by omega)
  rw [hj, add_lit] at h1
  unfold World.cell? at h1
  simp only at h1
  split at h1
  · rename_i cs T fr hb
    exact ⟨cs, T, fr, allM_nil hb rfl, h1⟩
  · cases h1

mutual
theorem dec_ty : ∀ {t : Ty} {T : TypeId}, TyOf P t T → ∀ {n : Nat} {cs : List Value} {y : DataW H × List MemPlace}, DataW.trod enc P w 0 (fun _ => true) held n T cs = some y → (∀ k ∈ y.1.weights P T, k ≤ reachBytes) → ∃ x : t.den, WF t x ∧ RC (allM w []) t x cs
  | _, _, .int hu, n, cs, y, h, hz => by
    obtain ⟨z, rfl, _, hw⟩ := DataW.trod_int hu h
    exact ⟨z, hw, rfl⟩
  | _, _, .bool hu, n, cs, y, h, hz => by
    obtain ⟨z, rfl, _⟩ := DataW.trod_bool hu h
    exact ⟨z, trivial, rfl⟩
  | _, _, .str hu, n, cs, y, h, hz => by
    obtain ⟨z, rfl, rfl, hw⟩ := DataW.trod_string hu h
    refine ⟨z.data.toList, hz _ (by simp [DataW.weights]), ?_⟩
    show [Value.string z] = [.string (bstr z.data.toList)]
    rw [bstr_data]
  | .slice e, T, .slice (E := E) hu hc h0 hB he, n, cs, y, h, hz => by
    have h0' : 0 < e.cells := by simpa using h0
    have hB' : 0 < P.bytesOf E := by simpa using hB
    rcases Deep.open_slice hu h with ⟨rfl, rfl⟩ | ⟨a, len, cap, m, n', D, Pl, rfl, _, hl, hm, hmm, rfl, hall⟩
    · exact ⟨([] : List e.den), ⟨Nat.zero_le _, fun y hy => by cases hy⟩, ⟨none, 0, 0, rfl, rfl, Nat.le_refl _, Nat.zero_le _, 0, 0, fun h => absurd h (by omega), fun i y hy => by simp at hy⟩⟩
    · rw [if_pos rfl] at hmm
      subst hmm
      have hwt : ∀ k, k ∈ (DataW.slice ((List.range len).map D) ((List.range (m - len)).map fun j => D (len + j))).weights P T → k ≤ reachBytes := hz
      have hlen : len ≤ reachBytes := by
        have := hwt ((((List.range len).map D).length + ((List.range (m - len)).map fun j => D (len + j)).length) * P.bytesOf E) (by simp [DataW.weights, hu])
        simp only [List.length_map, List.length_range] at this
        have z2 := Nat.le_trans (Nat.le_mul_of_pos_right _ hB') this
        omega
      have hin : ∀ i, i < len → ∀ k ∈ (D i).weights P E, k ≤ reachBytes := by
        intro i hi k hk
        refine hwt k ?_
        simp only [DataW.weights, hu, List.mem_cons, List.mem_append]
        refine .inr (.inl ?_)
        have : ∀ {l : List (DataW H)} {d : DataW H}, d ∈ l → k ∈ d.weights P E → k ∈ DataW.weightsAll P E l := by
          intro l
          induction l with
          | nil => intro d hd; cases hd
          | cons c l ih =>
            intro d hd hk
            rw [DataW.weightsAll, List.mem_append]
            rcases List.mem_cons.1 hd with rfl | hd
            · exact .inl hk
            · exact .inr (ih hd hk)
        exact this (List.mem_map.2 ⟨i, List.mem_range.2 hi, rfl⟩) hk
      rw [hc] at hall
      have hrow : ∀ i, i < len → ∃ x : e.den, ∃ us, WF e x ∧ RC (allM w []) e x us ∧ a.spot = none ∧ CellsM (allM w []) a.block (a.off + i * e.cells) us := by
        intro i hi
        obtain ⟨us, h1, h2⟩ := hall i (by omega)
        obtain ⟨x, hx1, hx2⟩ := dec_ty he h2 (hin i hi)
        obtain ⟨s0, _⟩ : a.spot = none ∧ True := by
          obtain ⟨u0, g1, _⟩ := hall 0 (by omega)
          have := (cells_at g1 h0').1
          refine ⟨?_, trivial⟩
          simpa [Addr.add] using this
        obtain ⟨b0, o0, sp⟩ := a
        simp only at s0
        subst s0
        rw [add_lit] at h1
        have := (cells_at h1 h0').2
        exact ⟨x, us, hx1, hx2, rfl, this⟩
      have hne : ∀ i, i < len → Nonempty e.den := fun i hi => let ⟨x, _⟩ := hrow i hi; ⟨x⟩
      by_cases hz0 : len = 0
      · subst hz0
        exact ⟨([] : List e.den), ⟨Nat.zero_le _, fun y hy => by cases hy⟩, ⟨some a, 0, m, rfl, rfl, Nat.zero_le _, Nat.zero_le _, 0, 0, fun h => absurd h (by omega), fun i y hy => by simp at hy⟩⟩
      · obtain ⟨x0⟩ := hne 0 (by omega)
        haveI : Inhabited e.den := ⟨x0⟩
        obtain ⟨X, hX⟩ := Deep.choose_lt hrow
        have hspot : a.spot = none := by obtain ⟨_, _, _, h, _⟩ := hX 0 (by omega); exact h
        refine ⟨(List.range len).map X, ⟨by simpa using hlen, fun y hy => ?_⟩, ⟨some a, len, m, rfl, by simp, hl, by have := reachBytes_lt; show len ≤ 140737488355328; omega, a.block, a.off, fun _ => ?_, fun i y hy => ?_⟩⟩
        · obtain ⟨i, hi, rfl⟩ := List.mem_map.1 hy
          obtain ⟨_, h1, _⟩ := hX i (List.mem_range.1 hi)
          exact h1
        · obtain ⟨b0, o0, sp⟩ := a
          simp only at hspot
          subst hspot; rfl
        · have hil : i < len := by have := (List.getElem?_eq_some_iff.1 hy).1; simpa using this
          obtain ⟨us, _, h2, _, h3⟩ := hX i hil
          have : y = X i := by
            rw [List.getElem?_map, List.getElem?_range hil] at hy
            exact (Option.some.inj hy).symm
          subst this
          exact ⟨us, h2, h3⟩
  | .st a, T, .st (fs := fs) hu hc hf, n, cs, y, h, hz => by
    obtain ⟨xs, m, _, rfl, hl, hxl, hall⟩ := DataW.trod_struct hu h
    have := dec_fd hf (n := m) (cs := cs) (xs := xs) (by simpa using hxl) (by rw [hl, hc]; omega) (fun i q hi => by
      rw [List.getElem?_map] at hi
      cases hfi : fs.toList[i]? with
      | none => rw [hfi] at hi; cases hi
      | some f => rw [hfi] at hi; cases hi; exact hall i f (by simpa using hfi)) (fun k hk => hz k (by simp only [DataW.weights, hu]; rw [List.map_map] at hk; exact hk))
    rw [List.drop_zero, List.take_of_length_le (by omega)] at this
    exact this
  | .st a, T, .ar (n := k) (E := E) hu hc hf, n, cs, y, h, hz => by
    obtain ⟨xs, m, _, rfl, hl, hxl, hall⟩ := DataW.trod_array hu h
    have hw : ∀ {l : List (DataW H)} {j : Nat}, j = l.length → DataW.weightsEach P (((List.range j).map fun i => (E, i * P.cellsOf E)).map (·.1)) l = DataW.weightsAll P E l := by
      have : ∀ {l : List (DataW H)} {ts : List TypeId}, ts = List.replicate l.length E → DataW.weightsEach P ts l = DataW.weightsAll P E l := by
        intro l
        induction l with
        | nil => intro ts h; subst h; simp [DataW.weightsEach, DataW.weightsAll]
        | cons d l ih => intro ts h; subst h; rw [List.length_cons, List.replicate_succ, DataW.weightsEach, DataW.weightsAll, ih rfl]
      intro l j hj
      refine this ?_
      subst hj
      rw [List.map_map]
      apply List.ext_getElem?
      intro i
      rw [List.getElem?_map, List.getElem?_replicate]
      by_cases hi : i < l.length
      · rw [List.getElem?_range hi, if_pos hi]; rfl
      · rw [List.getElem?_eq_none (by simpa using hi), if_neg hi]; rfl
    have := dec_fd hf (n := m) (cs := cs) (xs := xs) (by simpa using hxl) (by rw [hl, hc]; omega) (fun i q hi => by
      rw [List.getElem?_map] at hi
      by_cases hik : i < k
      · rw [List.getElem?_range hik] at hi; cases hi; exact hall i hik
      · rw [List.getElem?_eq_none (by simpa using hik)] at hi; cases hi) (fun k' hk => hz k' (by
        rw [hw (by simp [hxl])] at hk
        simp only [DataW.weights, hu]; exact hk))
    rw [List.drop_zero, List.take_of_length_le (by omega)] at this
    exact this
theorem dec_fd : ∀ {a : Ty} {r : List (TypeId × Nat)} {o : Nat}, FdOf P a r o → ∀ {n : Nat} {cs : List Value} {xs : List (DataW H × List MemPlace)}, xs.length = r.length → o + a.cells ≤ cs.length →
    (∀ (i : Nat) (q : TypeId × Nat), r[i]? = some q → DataW.trod enc P w 0 (fun _ => true) held n q.1 ((cs.drop q.2).take (P.cellsOf q.1)) = xs[i]?) → (∀ k ∈ DataW.weightsEach P (r.map (·.1)) (xs.map (·.1)), k ≤ reachBytes) →
    ∃ x : a.den, WF a x ∧ RC (allM w []) a x ((cs.drop o).take a.cells)
  | _, _, _, .unit, n, cs, xs, hl, hc, h, hz => ⟨(), trivial, by simp [RC, Ty.cells]⟩
  | a, _, o, .one (T := T) hk ht, n, cs, xs, hl, hc, h, hz => by
    obtain ⟨x, rfl⟩ := List.length_eq_one_iff.1 hl
    have h1 := h 0 _ rfl
    simp only [List.getElem?_cons_zero] at h1
    rw [← hk]
    exact dec_ty ht h1 (fun k hk => hz k (by simp only [List.map_cons, List.map_nil, DataW.weightsEach, List.mem_append]; exact .inl hk))
  | .pair a b, _, o, .cons (T := T) (q := q) (r := r) hk ht hr, n, cs, xs, hl, hc, h, hz => by
    cases xs with
    | nil => simp at hl
    | cons x xs =>
      have h1 := h 0 _ rfl
      simp only [List.getElem?_cons_zero] at h1
      obtain ⟨u, u1, u2⟩ := dec_ty ht h1 (fun k hk => hz k (by simp only [List.map_cons, DataW.weightsEach, List.mem_append]; exact .inl hk))
      simp only [Ty.cells] at hc
      obtain ⟨v, v1, v2⟩ := dec_fd hr (n := n) (cs := cs) (xs := xs) (by simpa using hl) (by omega) (fun i q hi => by
        have := h (i + 1) q (by simpa using hi)
        simpa using this) (fun k hk => hz k (by simp only [List.map_cons, DataW.weightsEach, List.mem_append] at hk ⊢; exact .inr hk))
      refine ⟨(u, v), ⟨u1, v1⟩, ⟨_, _, ?_, u2, v2⟩⟩
      rw [hk]
      simp only [Ty.cells]
      rw [List.take_add, List.drop_drop]
end

theorem fd_cast {a : Ty} {l m : List (TypeId × Nat)} {o : Nat} (h : m = l) (k : FdOf P a l o) : FdOf P a m o := h ▸ k
/-- An argument. -/
theorem arg_ty {t : Ty} {T : TypeId} (ht : TyOf P t T) (hn : t.noArr = true) {v : Value} {d : DataW H} {ps : List MemPlace} {r : Reach} {base : Nat} {ts : List TypeId} {ds : List (DataW H)} {j : Nat}
    (hok : Value.okWide P w r base T v) (hsz : (DataW.weightsEach P ts ds).all (· ≤ reachBytes) = true) (hj : ts[j]? = some T) (hd : ds[j]? = some d)
    (h : DataW.Trod enc P w 0 (fun _ => true) held T v d ps) : ∃ x : t.den, WF t x ∧ RepA (allM w []) [] (whole t x) v := by
  obtain ⟨fuel, hf⟩ := h
  obtain ⟨x, h1, h2⟩ := dec_ty ht hf (fun k hk => by
    have := List.all_eq_true.1 hsz _ (DataW.weights_mem_each hj hd k hk)
    simpa using this)
  refine ⟨x, h1, ?_⟩
  have one : ∀ {a : AV} {u : Value}, v.cells = #[v] → RepL (allM w []) [] [a] v.cells.toList → RepA (allM w []) [] a v := by
    intro a u hv hr
    rw [hv] at hr
    simp only [RepL, and_true] at hr; exact hr
  have hr := rc_expl (ρ := []) h2
  cases ht with
  | int hu => obtain ⟨n, rfl⟩ := okWide_int hu hok; simp only [Value.cells, RepL, expl, and_true] at hr; exact hr
  | bool hu => obtain ⟨n, rfl⟩ := okWide_bool hu hok; simp only [Value.cells, RepL, expl, and_true] at hr; exact hr
  | str hu => obtain ⟨n, rfl⟩ := okWide_string hu hok; simp only [Value.cells, RepL, expl, and_true] at hr; exact hr
  | slice hu _ _ _ _ => obtain ⟨a, l, c, rfl⟩ := okWide_slice hu hok; simp only [Value.cells, RepL, expl, and_true] at hr; exact hr
  | st hu hc _ =>
    obtain ⟨cs, rfl, _⟩ := okWide_struct hu hok
    simp only [whole, Ty.agg, if_true, RepA]
    exact ⟨cs.toList, by simp, hr, h2.one⟩
  | ar hu hc _ =>
    simp only [Value.okWide, hu] at hok
    obtain ⟨cs, rfl, _⟩ := hok
    simp only [whole, Ty.agg, if_true, RepA]
    exact ⟨cs.toList, by simp, hr, h2.one⟩
end
end Go.Ab


set_option linter.unusedVariables false
set_option linter.unusedSimpArgs false
namespace Go.Ab
open Go.RowKit Go.Shelf Go.Proofs Go.Eng

/-! the tail of a slice of the call's own, cleared -/
section
variable {P : Program} {N : Ev} {K : Fr → World → Prop} {Q : Post} {l : Fr} {w : World}
end
section
variable {P : Program} {N : Ev} {X : Cx} {Q : APost} {st : AS} {ops : Array Oper} {rest : List Oper}
variable {d T U U' : TypeId} {pos pos' : String} {aft aft' : Array Edge} {x y lo : Operand}
end

end Go.Ab


set_option linter.unusedVariables false
set_option linter.unusedSimpArgs false
namespace Go.Ab
open Go.RowKit Go.Shelf Go.Proofs Go.Eng

/-! maps of what the call owns -/
section
variable {m : Mem} {ρ : List Value} {k : Ty} {v : OT} {hs hs' : List (k.den × Nat)}
end

/-! what is put in -/
end Go.Ab


set_option linter.unusedVariables false
set_option linter.unusedSimpArgs false
namespace Go.Ab
open Go.RowKit Go.Shelf Go.Proofs Go.Eng

section
variable {P : Program} {N : Ev} {X : Cx} {Q : APost} {st : AS}
variable {d : Nat} {T U T' : TypeId} {pos : String} {aft : Array Edge} {g : Option (Nat × Bool)} {x y z : Operand}

def killF : List Frag → List Nat → List Frag
  | φ, [] => φ
  | φ, j :: js => killF (φ.set j []) js
theorem killF_perm : ∀ {js : List Nat} {φ : List Frag}, js.Nodup → (∀ j ∈ js, j < φ.length) → φ.flatten.Perm ((js.flatMap fun j => φ.getD j []) ++ (killF φ js).flatten) := by
  intro js
  induction js with
  | nil => intro φ _ _; simp [killF]
  | cons j js ih =>
    intro φ hnd hl
    rw [List.nodup_cons] at hnd
    have hj := hl j (by simp)
    have hg : φ[j]? = some (φ.getD j []) := by rw [List.getD_eq_getElem?_getD, List.getElem?_eq_getElem hj]; rfl
    have h1 := frag_split hg []
    have h2 := ih (φ := φ.set j []) hnd.2 (fun q hq => by simpa using hl q (by simp [hq]))
    have h3 : (js.flatMap fun q => (φ.set j []).getD q []) = js.flatMap fun q => φ.getD q [] := by
      rw [List.flatMap_def, List.flatMap_def]
      congr 1
      apply List.map_congr_left
      intro q hq
      rw [List.getD_eq_getElem?_getD, List.getD_eq_getElem?_getD, List.getElem?_set_ne (fun e : j = q => hnd.1 (by rw [e]; exact hq))]
    rw [h3] at h2
    refine h1.1.trans ?_
    rw [List.flatMap_cons, List.append_assoc]
    refine List.Perm.append_left _ ?_
    have h4 := h1.2
    rw [List.nil_append] at h4
    exact h4.symm.trans h2

end
end Go.Ab


set_option linter.unusedVariables false
set_option linter.unusedSimpArgs false
namespace Go.Ab
open Go.RowKit Go.Shelf Go.Proofs Go.Eng

section
variable {P : Program} {N : Ev} {X : Cx} {Q : APost} {st : AS}
variable {d : Nat} {T U T' : TypeId} {pos : String} {aft : Array Edge} {g : Option (Nat × Bool)} {x y z : Operand}

theorem Conc.before {fr : Fr} {w : World} {m : Mem} {ρ : List Value} {φ : List Frag} (hc : Conc X st fr w m ρ φ) {js : List Nat} (hnd : js.Nodup) (hl : ∀ j ∈ js, j < st.n) : SH X.e w m ((js.flatMap fun j => φ.getD j []) ++ ((killF φ js).flatten ++ X.F)) := by
  refine hc.sh.perm ?_
  rw [← List.append_assoc]
  exact (killF_perm hnd (fun j hj => by rw [hc.nφ]; exact hl j hj)).append_right _
end
end Go.Ab


set_option linter.unusedVariables false
set_option linter.unusedSimpArgs false
namespace Go.Ab
open Go.RowKit Go.Shelf Go.Proofs Go.Eng

/-! what is taken out -/
/-- Roots, their handles, where they lie. -/
def Roots (m : Mem) (ρ : List Value) : List AO → List Value → List Frag → Prop
  | [], [], [] => True
  | o :: os, h :: hs, g :: gs => ORep m ρ o h g ∧ Roots m ρ os hs gs
  | _, _, _ => False
theorem Roots.mono {m : Mem} {ρ ρ' : List Value} (hρ : ∀ (i : Nat) (h : Value), ρ[i]? = some h → ρ'[i]? = some h) : ∀ {os : List AO} {hs : List Value} {gs : List Frag}, Roots m ρ os hs gs → Roots m ρ' os hs gs := by
  intro os
  induction os with
  | nil => intro hs gs h; cases hs with
    | nil => cases gs with
      | nil => trivial
      | cons => exact h.elim
    | cons => exact h.elim
  | cons o os ih => intro hs gs h; cases hs with
    | nil => exact h.elim
    | cons u hs => cases gs with
      | nil => exact h.elim
      | cons g gs => exact ⟨h.1.mono (Mem.le_refl _) hρ, ih h.2⟩
theorem Roots.app {m : Mem} {ρ : List Value} : ∀ {os os' : List AO} {hs hs' : List Value} {gs gs' : List Frag}, Roots m ρ os hs gs → Roots m ρ os' hs' gs' → Roots m ρ (os ++ os') (hs ++ hs') (gs ++ gs') := by
  intro os
  induction os with
  | nil => intro os' hs hs' gs gs' h k; cases hs with
    | nil => cases gs with
      | nil => exact k
      | cons => exact h.elim
    | cons => exact h.elim
  | cons o os ih => intro os' hs hs' gs gs' h k; cases hs with
    | nil => exact h.elim
    | cons u hs => cases gs with
      | nil => exact h.elim
      | cons g gs => exact ⟨h.1, ih h.2 k⟩
theorem Roots.get {m : Mem} {ρ : List Value} : ∀ {os : List AO} {hs : List Value} {gs : List Frag}, Roots m ρ os hs gs → os.length = hs.length ∧ gs.length = hs.length ∧ ∀ (q : Nat) (h : Value) (f : Frag), hs[q]? = some h → gs[q]? = some f → ∃ o, os[q]? = some o ∧ ORep m ρ o h f := by
  intro os
  induction os with
  | nil => intro hs gs h; cases hs with
    | nil => cases gs with
      | nil => exact ⟨rfl, rfl, fun q h f hq => by simp at hq⟩
      | cons => exact h.elim
    | cons => exact h.elim
  | cons o os ih => intro hs gs h; cases hs with
    | nil => exact h.elim
    | cons u hs => cases gs with
      | nil => exact h.elim
      | cons g gs =>
        obtain ⟨h1, h2, h3⟩ := ih h.2
        refine ⟨by simp [h1], by simp [h2], fun q h' f a b => ?_⟩
        cases q with
        | zero => simp at a b; subst a b; exact ⟨o, rfl, h.1⟩
        | succ q => simpa using h3 q h' f (by simpa using a) (by simpa using b)
end Go.Ab


set_option linter.unusedVariables false
set_option linter.unusedSimpArgs false
namespace Go.Ab
open Go.RowKit Go.Shelf Go.Proofs Go.Eng

section
variable {P : Program} {N : Ev} {X : Cx} {Q : APost} {st : AS}

end
end Go.Ab


set_option linter.unusedVariables false
set_option linter.unusedSimpArgs false
namespace Go.Ab
open Go.RowKit Go.Shelf Go.Proofs Go.Eng

/-! regions whose order is drawn, in which values are read ahead of a turn or behind it -/
section
variable {P : Program} {N : Ev} {Q : Post} {l : Fr} {w : World}

theorem count_set {listed : Array Bool} {i fuel : Nat} (hun : listed[i]? = some false) (hf : (listed.toList.filter (! ·)).length ≤ fuel + 1) : ((listed.setIfInBounds i true).toList.filter (! ·)).length ≤ fuel := by
  have hlt := (Array.getElem?_eq_some_iff.1 hun).1
  have hlt' : i < listed.toList.length := by simpa using hlt
  have e1 : (listed.setIfInBounds i true).toList = listed.toList.set i true := by simp
  rw [e1]
  have e2 : listed.toList = listed.toList.take i ++ false :: listed.toList.drop (i + 1) := by
    have hg : listed.toList[i] = false := by
      have := hun
      rw [Array.getElem?_eq_getElem hlt] at this
      simpa using this
    rw [← hg, ← List.drop_eq_getElem_cons hlt']; simp
  have e3 : listed.toList.set i true = listed.toList.take i ++ true :: listed.toList.drop (i + 1) := by
    rw [List.set_eq_take_append_cons_drop, if_pos hlt']
  rw [e3]
  rw [e2] at hf
  simp only [List.filter_append, List.length_append, List.filter_cons, Bool.not_false, Bool.not_true, if_true, List.length_cons] at hf ⊢
  simp at hf ⊢
  omega

structure LateOk (P : Program) (N : Ev) (ops : List Oper) (m : Nat) (fl : List Nat) (Ψ : Nat → Value → Prop) (Q : Post) (l2 : Fr) (W2 : World) : Prop where
  run : ∀ j ∈ fl, ∀ o, ops[j]? = some o → o.guard = none ∧ ∃ d, o.dst = some d ∧ d < N.n ∧ l2.look d = none ∧ (∀ j' ∈ fl, ∀ o', ops[j']? = some o' → o'.dst = some d → j' = j) ∧
    ∃ ds : List Nat, (∀ k ∈ ds, k ∈ fl ∧ ∃ e ∈ o.after, Region.binds .any e = true ∧ e.on = k) ∧ ∀ a W, Below W2.heap.size W2 W → Holds N l2 a → Eng.Good N a W → (∀ k ∈ ds, ∀ o', ops[k]? = some o' → ∃ d v, o'.dst = some d ∧ a.tmps[d]? = some v ∧ Ψ k v) → ∃ l1, Holds N l1 a ∧ OpW P N o (fun l' W' => (∃ v, l'.look d = some v ∧ Ψ j v) ∧ Below W.heap.size W W') Q l1 W

end
end Go.Ab


set_option linter.unusedVariables false
set_option linter.unusedSimpArgs false
namespace Go.Ab
open Go.RowKit Go.Shelf Go.Proofs Go.Eng

section
variable {P : Program} {N : Ev} {Q : Post} {l : Fr} {w : World}
end
end Go.Ab


set_option linter.unusedVariables false
set_option linter.unusedSimpArgs false
namespace Go.Ab
open Go.RowKit Go.Shelf Go.Proofs Go.Eng

section
variable {P : Program} {N : Ev} {X : Cx} {Q : APost} {st : AS}

/-- What is owed of the values that are read late, behind the turn. -/
def LateV (P : Program) (N : Ev) (ops : List Oper) (Ts : List TT) (dl : List (List Nat)) (l : AFr) (H : AH) (n : Nat) : List Nat → Prop
  | [] => True
  | j :: r => (∀ X' o, ops[j]? = some o → AOpV P N X' o (ttAt Ts j).2 ⟨depF ops Ts ((dl[j]?).getD []) l, H, n⟩) ∧ LateV P N ops Ts dl l H n r
theorem LateV.at {ops : List Oper} {Ts : List TT} {dl : List (List Nat)} {l : AFr} {H : AH} {n : Nat} : ∀ {fl : List Nat}, LateV P N ops Ts dl l H n fl → ∀ j ∈ fl, ∀ X' o, ops[j]? = some o → AOpV P N X' o (ttAt Ts j).2 ⟨depF ops Ts ((dl[j]?).getD []) l, H, n⟩ := by
  intro fl
  induction fl with
  | nil => intro _ j hj; simp at hj
  | cons a r ih =>
    intro h j hj
    rcases List.mem_cons.1 hj with rfl | hj
    · exact h.1
    · exact ih h.2 j hj

end
end Go.Ab


set_option linter.unusedVariables false
set_option linter.unusedSimpArgs false
namespace Go.Ab
open Go.RowKit Go.Shelf Go.Proofs Go.Eng

section
variable {P : Program} {N : Ev} {X : Cx} {Q : APost} {st : AS}
variable {d : Nat} {T U T' : TypeId} {pos : String} {aft : Array Edge} {g : Option (Nat × Bool)} {x y : Operand}
/-! a pointer against nil -/
end
end Go.Ab


set_option linter.unusedVariables false
set_option linter.unusedSimpArgs false
namespace Go.Ab
open Go.RowKit Go.Shelf Go.Proofs Go.Eng

/-! calls of closures that turn what they hold -/
section
variable {P : Program} {N : Ev} {X : Cx} {Q : APost} {st : AS}
variable {d : Nat} {U : TypeId} {pos : String} {aft : Array Edge} {g : Option (Nat × Bool)}
end
end Go.Ab


set_option linter.unusedVariables false
set_option linter.unusedSimpArgs false
namespace Go.Ab
open Go.RowKit Go.Shelf Go.Proofs Go.Eng

/-! maps that are read alone -/
section
variable {P : Program} {N : Ev} {X : Cx} {Q : APost} {st : AS}
variable {d : Nat} {T U T' : TypeId} {pos : String} {aft : Array Edge} {g : Option (Nat × Bool)} {x y z : Operand} {k ky : IntKind} {a b : Int}

/-! loops over maps -/
/-! the next one -/
end

end Go.Ab


set_option linter.unusedVariables false
set_option linter.unusedSimpArgs false
namespace Go.Ab
open Go.RowKit Go.Shelf Go.Proofs Go.Eng

/-! functions that may give more than one thing: told by what holds of all of them -/
section
variable {P : Program} {N : Ev} {X : Cx} {Q : APost} {st : AS}
variable {d : Nat} {T U T' : TypeId} {pos : String} {aft : Array Edge} {g : Option (Nat × Bool)} {x y z : Operand}
end
end Go.Ab


set_option linter.unusedVariables false
set_option linter.unusedSimpArgs false
namespace Go.Ab
open Go.RowKit Go.Shelf Go.Proofs Go.Eng

/-! tables that lie in the memory that is read alone -/
abbrev Tabs := List (Nat × Array Value)
def TabM (L : Tabs) (m : Mem) : Prop := ∀ p ∈ L, ∃ T fr, m p.1 = some (.cells p.2 T fr)
theorem TabM.mono {L : Tabs} {m m' : Mem} (hm : m.le m') (h : TabM L m) : TabM L m' := fun p hp => let ⟨T, fr, h1⟩ := h p hp; ⟨T, fr, hm _ _ h1⟩
theorem runs_wT {L : Tabs} {P : Program} {f : FuncId} {fn : Func} {c : Code} {n : Nat} {args : List AV} {H : List AO} {R : List AV → List AO → Prop} {rs : List ResultVar} (hf : P.funcs[f]? = some fn) (hN : fn.ntmps = n) (hb : fn.body = some c) (hr : fn.results = rs.toArray) (hle : Nat.ble args.length n = true)
    (h : ∀ (w0 : World) (X : Cx), TabM L X.m → X.ρ.length = H.length → AWC P ⟨n, none, w0, nox, false⟩ X c (retW P X rs H.length R) ⟨argA 0 args, zipH 0 H, H.length⟩) : RunsT (TabM L) P f args H R := by
  intro m0 hT e w m ρ φ F vs hm0 hv ho hs
  have hl := hv.len
  refine ret_of hf hb hN (by rw [hl]; exact hle) hr ?_
  refine WC.mono ?_ (h w ⟨e, m, ρ, F⟩ (hT.mono hm0) ho.nρ _ _ _ _ _ (args_conc hv ho hs))
  rintro ex l w' ⟨st, m', ρ', φ', hc', hq⟩
  cases ex with
  | normal => obtain ⟨st', h3, h4⟩ := hq; obtain ⟨m'', ρ'', φ'', h5⟩ := h3 _ _ _ _ _ hc'; exact outs_conc (w := w) (m := m) h5 h4
  | ret => obtain ⟨st', h3, h4⟩ := hq; obtain ⟨m'', ρ'', φ'', h5⟩ := h3 _ _ _ _ _ hc'; exact outs_conc (w := w) (m := m) h5 h4
  | _ => exact hq.elim
theorem runs_wMT {L : Tabs} {P : Program} {f : FuncId} {fn : Func} {c : Code} {n : Nat} {args : List AV} {H : List AO} {R : List AV → List AO → Prop} {rs : List ResultVar} (hf : P.funcs[f]? = some fn) (hN : fn.ntmps = n) (hb : fn.body = some c) (hr : fn.results = rs.toArray) (hle : Nat.ble args.length n = true) (hp : (H.all AO.plain) = true)
    (h : ∀ (w0 : World) (X : Cx), TabM L X.m → X.ρ.length = H.length → HX nox X → AWC P ⟨n, none, w0, nox, true⟩ X c (retW P X rs H.length R) ⟨argA 0 args, zipH 0 H, H.length⟩) : RunsT (TabM L) P f args H R :=
  fun m0 hT => runs_wM0 hf hN hb hr hle hp fun w0 X hm => h w0 X (hT.mono hm)

/-! the kit's contracts of functions of whole numbers and texts -/
theorem repL_flat {m : Mem} {ρ : List Value} : ∀ {rs : List AV}, (rs.all flatB) = true → RepL m ρ rs (rs.map flatV) := by
  intro rs
  induction rs with
  | nil => intro _; simp [RepL]
  | cons a rs ih =>
    intro h
    simp only [List.all_cons, Bool.and_eq_true] at h
    simp only [List.map_cons, RepL]
    refine ⟨?_, ih h.2⟩
    cases a <;> simp_all [flatB, flatV, RepA]
theorem runs_flatT {L : Tabs} {P : Program} {f : FuncId} {as' rs : List AV} (ha : (as'.all flatB) = true) (hr : (rs.all flatB) = true)
    (h : ∀ w, (∀ p ∈ L, ∃ T fr, w.heap[p.1]? = some (.cells p.2 T fr)) → Calls P f (as'.map flatV).toArray w fun e w' => e = .returned (tupleOf (rs.map flatV)) ∧ Below w.heap.size w w') : RunsT (TabM L) P f as' [] fun r H' => r = rs ∧ H' = [] := by
  intro m0 hT e w m ρ φ F vs hm0 hv ho hs
  rw [flat_repL ha hv]
  refine Calls.mono (h w fun p hp => ?_) ?_
  · obtain ⟨T, fr, h1⟩ := hT p hp; exact ⟨T, fr, hs.fz _ _ (hm0 _ _ h1)⟩
  · rintro ex w' ⟨rfl, hb⟩
    exact ⟨_, rfl, ⟨DK.of_below hb, hb.size⟩, rs, [], m, ρ, φ, ⟨rfl, rfl⟩, Mem.le_refl _, fun _ _ h => h, Nat.le_refl _, ho, hs.ext hb, _, repL_flat hr, rfl⟩
theorem runs_flat {P : Program} {f : FuncId} {as' rs : List AV} (ha : (as'.all flatB) = true) (hr : (rs.all flatB) = true)
    (h : ∀ w, Calls P f (as'.map flatV).toArray w fun e w' => e = .returned (tupleOf (rs.map flatV)) ∧ Below w.heap.size w w') : RunsP P f as' rs := by
  intro e w m ρ φ F vs hv ho hs
  rw [flat_repL ha hv]
  refine Calls.mono (h w) ?_
  rintro ex w' ⟨rfl, hb⟩
  exact ⟨_, rfl, ⟨DK.of_below hb, hb.size⟩, rs, [], m, ρ, φ, ⟨rfl, rfl⟩, Mem.le_refl _, fun _ _ h => h, Nat.le_refl _, ho, hs.ext hb, _, repL_flat hr, rfl⟩
end Go.Ab


set_option linter.unusedVariables false
namespace Go.Ab

/-! plain laws of printed functions -/
/-- A loop over an index, by an invariant; it may be left. -/
theorem rng_ex {S R : Type} {g : Int → S → Option (S ⊕ R)} (Inv : Nat → S → Prop) (Ex : R → Prop) {n : Nat} (h : ∀ i s, i < n → Inv i s → (∃ s', g (i : Int) s = some (.inl s') ∧ Inv (i + 1) s') ∨ ∃ r, g (i : Int) s = some (.inr r) ∧ Ex r) :
    ∀ (k i : Nat) (s : S), i + k = n → Inv i s → (∃ s', rng g k (i : Int) s = some (.inl s') ∧ Inv n s') ∨ ∃ r, rng g k (i : Int) s = some (.inr r) ∧ Ex r := by
  intro k
  induction k with
  | zero => intro i s hi hs; left; exact ⟨s, rfl, by rw [← hi]; simpa using hs⟩
  | succ k ih =>
    intro i s hi hs
    rcases h i s (by omega) hs with ⟨s', h1, h2⟩ | ⟨r, h1, h2⟩
    · simp only [rng, h1, Option.bind_some]
      have := ih (i + 1) s' (by omega) h2
      simpa using this
    · right
      exact ⟨r, by simp only [rng, h1, Option.bind_some], h2⟩
theorem rng_ex0 {S R : Type} {g : Int → S → Option (S ⊕ R)} (Inv : Nat → S → Prop) (Ex : R → Prop) {n : Nat} (h : ∀ i s, i < n → Inv i s → (∃ s', g (i : Int) s = some (.inl s') ∧ Inv (i + 1) s') ∨ ∃ r, g (i : Int) s = some (.inr r) ∧ Ex r) {s : S} (h0 : Inv 0 s) :
    (∃ s', rng g n 0 s = some (.inl s') ∧ Inv n s') ∨ ∃ r, rng g n 0 s = some (.inr r) ∧ Ex r := rng_ex Inv Ex h n 0 s (by omega) h0
/-- A loop that runs to its end. -/
theorem rng_inv {S R : Type} {g : Int → S → Option (S ⊕ R)} (Inv : Nat → S → Prop) {n : Nat} (h : ∀ i s, i < n → Inv i s → ∃ s', g (i : Int) s = some (.inl s') ∧ Inv (i + 1) s') {s : S} (h0 : Inv 0 s) : ∃ s', rng g n 0 s = some (.inl s') ∧ Inv n s' := by
  rcases rng_ex0 Inv (fun _ : R => False) (fun i s hi hs => .inl (h i s hi hs)) h0 with h | ⟨r, _, h⟩
  · exact h
  · exact h.elim
theorem ix_nat {α : Type} {x : List α} {i : Nat} (h : i < x.length) : ix x (i : Int) = some x[i] := by
  unfold ix
  rw [if_pos (by omega)]
  simp [h]
theorem toNat_len {α : Type} (x : List α) : Int.toNat (List.length x : Int) = x.length := by simp
end Go.Ab


set_option linter.unusedVariables false
namespace Go.Ab
open Go.RowKit Go.Shelf Go.Proofs Go.Eng

/-! plain laws: more of loops, indexes, ranges -/
/-- It gives something of which this is true. -/
def Tot {α : Type} (p : Option α) (Q : α → Prop) : Prop := ∃ r, p = some r ∧ Q r
theorem tot_some {α : Type} {r : α} {Q : α → Prop} (h : Q r) : Tot (some r) Q := ⟨r, rfl, h⟩
theorem Tot.bind {α β : Type} {p : Option α} {f : α → Option β} {Q : α → Prop} {R : β → Prop} (h : Tot p Q) (k : ∀ r, Q r → Tot (f r) R) : Tot (p.bind f) R := by
  obtain ⟨r, rfl, hq⟩ := h
  exact k r hq
theorem Tot.mono {α : Type} {p : Option α} {Q R : α → Prop} (h : Tot p Q) (k : ∀ r, Q r → R r) : Tot p R := let ⟨r, h1, h2⟩ := h; ⟨r, h1, k r h2⟩
theorem Tot.eq {α : Type} {p : Option α} {r : α} (h : Tot p (· = r)) : p = some r := by obtain ⟨q, h1, rfl⟩ := h; exact h1
theorem tot_if {α : Type} {c : Bool} {p q : Option α} {Q : α → Prop} (ht : c = true → Tot p Q) (hf : c = false → Tot q Q) : Tot (bif c then p else q) Q := by
  cases c
  · exact hf rfl
  · exact ht rfl
theorem tot_need {α : Type} {c : Bool} {p : Option α} {Q : α → Prop} (h : c = true) (ht : Tot p Q) : Tot (bif c then p else none) Q := by rw [h]; exact ht
/-- A loop over an index that is not left. -/
theorem tot_rng {S R : Type} {g : Int → S → Option (S ⊕ R)} {n : Nat} {s : S} (Inv : Nat → S → Prop) (h0 : Inv 0 s) (h : ∀ i s, i < n → Inv i s → Tot (g (i : Int) s) fun o => ∃ s', o = .inl s' ∧ Inv (i + 1) s') : Tot (rng g n 0 s) fun o => ∃ s', o = .inl s' ∧ Inv n s' := by
  obtain ⟨s', h1, h2⟩ := rng_inv (g := g) (n := n) (s := s) Inv (fun i s hi hs => by
    obtain ⟨r, h1, s', rfl, h2⟩ := h i s hi hs
    exact ⟨s', h1, h2⟩) h0
  exact ⟨_, h1, s', rfl, h2⟩
/-- A loop over an index that may be left. -/
theorem tot_rngx {S R : Type} {g : Int → S → Option (S ⊕ R)} {n : Nat} {s : S} (Inv : Nat → S → Prop) (Ex : R → Prop) (h0 : Inv 0 s) (h : ∀ i s, i < n → Inv i s → Tot (g (i : Int) s) fun o => (∃ s', o = .inl s' ∧ Inv (i + 1) s') ∨ ∃ r, o = .inr r ∧ Ex r) : Tot (rng g n 0 s) fun o => (∃ s', o = .inl s' ∧ Inv n s') ∨ ∃ r, o = .inr r ∧ Ex r := by
  rcases rng_ex0 (g := g) (n := n) (s := s) Inv Ex (fun i s hi hs => by
    obtain ⟨r, h1, ⟨s', rfl, h2⟩ | ⟨r, rfl, h2⟩⟩ := h i s hi hs
    · exact .inl ⟨s', h1, h2⟩
    · exact .inr ⟨r, h1, h2⟩) h0 with ⟨s', h1, h2⟩ | ⟨r, h1, h2⟩
  · exact ⟨_, h1, .inl ⟨s', rfl, h2⟩⟩
  · exact ⟨_, h1, .inr ⟨r, rfl, h2⟩⟩

/-! indexes -/
theorem ix_getD {α : Type} [Inhabited α] {x : List α} {i : Nat} (h : i < x.length) : ix x (i : Int) = some (x.getD i default) := by
  rw [ix_nat h, List.getD_eq_getElem?_getD, List.getElem?_eq_getElem h]; rfl
theorem ix_int {α : Type} [Inhabited α] {x : List α} {z : Int} (h0 : 0 ≤ z) (h : z < x.length) : ix x z = some (x.getD z.toNat default) := by
  have := ix_getD (x := x) (i := z.toNat) (by omega)
  rwa [show ((z.toNat : Nat) : Int) = z by omega] at this
theorem tot_ix {α : Type} [Inhabited α] {x : List α} {i : Nat} (h : i < x.length) {β : Type} {f : α → Option β} {Q : β → Prop} (k : Tot (f (x.getD i default)) Q) : Tot ((ix x (i : Int)).bind f) Q := by rw [ix_getD h]; exact k
theorem getD_mem {α : Type} {x : List α} {j : Nat} {d : α} (h : j < x.length) : x.getD j d ∈ x := by
  rw [List.getD_eq_getElem?_getD, List.getElem?_eq_getElem h]; simp
theorem mem_getD {α : Type} {x : List α} {v : α} (d : α) (h : v ∈ x) : ∃ j, j < x.length ∧ x.getD j d = v := by
  obtain ⟨j, hj, rfl⟩ := List.getElem_of_mem h
  exact ⟨j, hj, by rw [List.getD_eq_getElem?_getD, List.getElem?_eq_getElem hj]; rfl⟩
theorem take_snoc {α : Type} {x : List α} {i : Nat} (d : α) (h : i < x.length) : x.take (i + 1) = x.take i ++ [x.getD i d] := by
  rw [List.take_add_one, List.getElem?_eq_getElem h, List.getD_eq_getElem?_getD, List.getElem?_eq_getElem h]; rfl

/-! whole numbers of the machine -/
/-- A number of 64 bits. -/
def R64 (z : Int) : Prop := -9223372036854775808 ≤ z ∧ z ≤ 9223372036854775807
theorem w64_id {z : Int} (h : R64 z) : w64 z = z := wrap_i64 h
theorem apOk_t {b n : Nat} (h : n * b ≤ 140737488355328) : apOk b n = true := by
  simp only [apOk, Nat.ble_eq]; exact h
theorem strOk_t {n : Nat} (h : n ≤ 140737488355328) : strOk n = true := by simp only [strOk, Nat.ble_eq]; exact h
theorem slOk_t {lo hi : Int} {n : Nat} (h0 : 0 ≤ lo) (h1 : lo ≤ hi) (h2 : hi ≤ n) : slOk lo hi n = true := by
  simp only [slOk, Bool.and_eq_true, decide_eq_true_eq]; exact ⟨⟨h0, h1⟩, h2⟩

/-! maps -/
end Go.Ab


set_option linter.unusedVariables false
namespace Go.Ab

/-! lists of numbers, in order -/
/-! lists in order by a key -/
end Go.Ab


set_option linter.unusedVariables false
namespace Go.Ab
end Go.Ab


set_option linter.unusedVariables false
namespace Go.Ab
/-! texts of the library -/
def fItoa (n : Int) : Option Str := bif decide (-9223372036854775808 ≤ n) && decide (n ≤ 9223372036854775807) then some (Lib.itoa n) else none
end Go.Ab


set_option linter.unusedVariables false
set_option linter.unusedSimpArgs false
namespace Go.Ab
open Go.RowKit Go.Shelf Go.Proofs Go.Eng

/-! strings.Builder -/
section
variable {P : Program}
variable {ρ : Ren}
/-- But one block all stand as they stood. -/
structure ButB (g : Nat) (w w' : World) : Prop where
  os : w'.os = w.os
  tape : w'.tape = w.tape
  output : w'.output = w.output
  size : w.heap.size ≤ w'.heap.size
  other : ∀ k, k < w.heap.size → k ≠ g → w'.heap[k]? = w.heap[k]?
theorem ButB.sh {e w w' : World} {m : Mem} {g : Nat} {o : Obj} {r : Frag} (h : ButB g w w') (hs : SH e w m ((g, o) :: r)) : SH e w' m r := by
  have hlt : ∀ x o', w.heap[x]? = some o' → x < w.heap.size := fun x o' hx => (Array.getElem?_eq_some_iff.1 hx).1
  have hnd := hs.nd
  rw [List.map_cons, List.nodup_cons] at hnd
  refine ⟨h.os.trans hs.os, h.tape.trans hs.tape, h.output.trans hs.output, fun x o' hx => ?_, fun p hp => ?_, hnd.2, fun p hp => hs.dis p (List.mem_cons_of_mem _ hp), fun p hp => hs.noctl p (List.mem_cons_of_mem _ hp), hs.mctl, Nat.le_trans hs.esz h.size⟩
  · have h1 := hs.fz x o' hx
    refine (h.other x (hlt _ _ h1) ?_).trans h1
    rintro rfl
    have := hs.dis (x, o) (by simp)
    simp only at this
    rw [hx] at this; cases this
  · have h1 := hs.own p (List.mem_cons_of_mem _ hp)
    refine (h.other p.1 (hlt _ _ h1) ?_).trans h1
    intro he
    exact hnd.1 (List.mem_map.2 ⟨p, hp, he⟩)
theorem ButB.dk {w w' : World} {g : Nat} {o : Obj} (h : ButB g w w') (hg : w.heap[g]? = some o) (hc : ctl o = false) : DK nox w w' ∧ w.heap.size ≤ w'.heap.size := by
  refine ⟨fun k o' hk hc' _ => ?_, h.size⟩
  refine (h.other k (Array.getElem?_eq_some_iff.1 hk).1 ?_).trans hk
  rintro rfl
  rw [hg] at hk; cases hk; rw [hc] at hc'; cases hc'
end
end Go.Ab


set_option linter.unusedVariables false
set_option linter.unusedSimpArgs false
namespace Go.Ab
open Go.RowKit Go.Shelf Go.Proofs Go.Eng
section
variable {P : Program} {N : Ev} {X : Cx} {Q : APost} {st : AS}
variable {d : Nat} {T U T' : TypeId} {pos : String} {aft : Array Edge} {g : Option (Nat × Bool)} {x y z : Operand} {k ky : IntKind} {a b : Int}

theorem op_indexArr {l : Fr} {w : World} {K : Fr → World → Prop} {Q : Post} {b o n c e sz j : Nat} {i : Int} {kd : IntKind} (hx : evo l x = some (.pointer (some ⟨b, o, none⟩))) (hy : evo l y = some (.int kd i)) (hU : Und P T (.array n e)) (hS : Sz P e sz) (hj : i = (j : Int)) (hlt : j < n)
    (hN : Nat.blt d N.n = true) (k : K ((d, .pointer (some ⟨b, o + j * sz, none⟩)) :: l) w) :
    OpW P N ⟨some d, .indexAddr T x y, U, pos, aft, g⟩ K Q l w := by
  subst hj
  refine op_val rfl hN (fun s hs => ?_) k
  simp [execOp, hs.eval hx, hs.eval hy, Instr.indexAt, asIntOf, run_underlying hU, hS w, add_lit, hlt, Instr.sureAddr]
end
end Go.Ab


set_option linter.unusedVariables false
set_option linter.unusedSimpArgs false
namespace Go.Ab
open Go.RowKit Go.Shelf Go.Proofs Go.Eng

/-! a row of own slices is taken out, appended to, put back -/
section
variable {P : Program} {N : Ev} {X : Cx} {Q : APost} {st : AS}
variable {d : Nat} {T U T' : TypeId} {pos : String} {aft : Array Edge} {g : Option (Nat × Bool)} {x y : Operand} {k ky : IntKind} {a b : Int}
end
end Go.Ab


set_option linter.unusedVariables false
set_option linter.unusedSimpArgs false
namespace Go.Ab
open Go.RowKit Go.Shelf Go.Proofs Go.Eng

/-! arrays of whole numbers -/
section
variable {P : Program} {N : Ev} {X : Cx} {Q : APost} {st : AS}
variable {d : Nat} {T U T' : TypeId} {pos : String} {aft : Array Edge} {g : Option (Nat × Bool)} {x y z : Operand} {k ky : IntKind} {a b : Int}
end
end Go.Ab


set_option linter.unusedVariables false
set_option linter.unusedSimpArgs false
namespace Go.Ab
open Go.RowKit Go.Shelf Go.Proofs Go.Eng

/-! arrays of any data -/
theorem flat_take {α : Type} : ∀ {us : List (List α)} {c a : Nat} {u : List α}, (∀ v ∈ us, v.length = c) → us[a]? = some u → (us.flatten.drop (a * c)).take c = u := by
  intro us
  induction us with
  | nil => intro c a u _ h; simp at h
  | cons v us ih =>
    intro c a u hall h
    have hv := hall v List.mem_cons_self
    cases a with
    | zero =>
      simp at h; subst h
      rw [Nat.zero_mul, List.drop_zero, List.flatten_cons, List.take_left' hv]
    | succ a =>
      rw [List.flatten_cons, List.drop_append, List.drop_eq_nil_of_le (by rw [hv, Nat.add_mul]; omega), List.nil_append, hv, show (a + 1) * c - c = a * c by rw [Nat.add_mul]; omega]
      exact ih (fun w hw => hall w (List.mem_cons_of_mem _ hw)) (by simpa using h)
theorem expl_len : ∀ {t : Ty} {x : t.den}, (expl t x).length = t.cells := by
  intro t
  induction t with
  | pair a b iha ihb => intro x; simp only [expl, List.length_append, iha, ihb, Ty.cells]
  | st a ih => intro x; exact ih (x := x)
  | arr n e ih =>
    intro x
    show ((List.range n).flatMap fun i => expl e ((x : List e.den).getD i e.dflt)).length = n * e.cells
    have : ∀ k, ((List.range k).flatMap fun i => expl e ((x : List e.den).getD i e.dflt)).length = k * e.cells := by
      intro k
      induction k with
      | zero => simp
      | succ k ihk => rw [List.range_succ, List.flatMap_append, List.length_append, ihk, Nat.add_mul]; simp [ih]
    exact this n
  | _ => intro x; rfl
theorem explG_beq {t : Ty} {x : t.den} {n : Nat} (h : t.cells = n) : Nat.beq (expl t x).length n = true := by rw [expl_len, h]; exact Nat.beq_refl n
theorem explG_take {t : Ty} {x : t.den} {n : Nat} (h : t.cells = n) : (expl t x).take n = expl t x := List.take_of_length_le (by rw [expl_len, h]; exact Nat.le_refl _)
theorem explG_ble0 {t : Ty} {x : t.den} {n : Nat} (h : t.cells = n) : Nat.ble n (expl t x).length = true := by rw [expl_len, h, Nat.ble_eq]; exact Nat.le_refl n
theorem over_full {t : Ty} {cs : List AV} {y : t.den} (h : Nat.beq cs.length t.cells = true) : over cs 0 (expl t y) = expl t y := by
  have h := Nat.eq_of_beq_eq_true h
  apply List.ext_getElem?
  intro i
  rw [over_get _ _ _ _ (by rw [expl_len]; omega), expl_len]
  split
  · rw [Nat.sub_zero]
  · rename_i h2
    rw [List.getElem?_eq_none (by omega), List.getElem?_eq_none (by rw [expl_len]; omega)]
/-- An element of an array. -/
def aig {α : Type} (n : Nat) (x : List α) (a : Int) : Option α := bif Nat.beq x.length n then ix x a else none
theorem aig_some {α : Type} {n : Nat} {x : List α} {a : Int} {e : α} (h : aig n x a = some e) : x.length = n ∧ 0 ≤ a ∧ a < n ∧ x[a.toNat]? = some e := by
  unfold aig at h
  cases hb : Nat.beq x.length n with
  | false => rw [hb] at h; cases h
  | true =>
    rw [hb] at h
    have hl := Nat.eq_of_beq_eq_true hb
    obtain ⟨h1, h2, h3⟩ := ix_some h
    have := (List.getElem?_eq_some_iff.1 h3).1
    exact ⟨hl, h1, by omega, h3⟩
theorem aig_at {n : Nat} {e : Ty} {x : List e.den} {a : Int} {y : e.den} (h : aig n x a = some y) : ((expl (.arr n e) x).drop (a.toNat * e.cells)).take e.cells = expl e y ∧ a.toNat * e.cells + e.cells ≤ (expl (.arr n e) x).length := by
  obtain ⟨h1, h2, h3, h4⟩ := aig_some h
  constructor
  · show (((List.range n).flatMap fun i => expl e (x.getD i e.dflt)).drop (a.toNat * e.cells)).take e.cells = expl e y
    rw [List.flatMap_def]
    refine flat_take (fun v hv => ?_) ?_
    · obtain ⟨i, _, rfl⟩ := List.mem_map.1 hv
      exact expl_len
    · rw [List.getElem?_map, List.getElem?_range (by omega)]
      simp only [Option.map_some]
      rw [List.getD_eq_getElem?_getD, h4]; rfl
  · rw [expl_len]
    show a.toNat * e.cells + e.cells ≤ n * e.cells
    have := Nat.mul_le_mul_right e.cells (show a.toNat + 1 ≤ n by omega)
    rw [Nat.add_mul] at this; omega
theorem fit_arrG {n : Nat} {e : Ty} {x : List e.den} (hn : e.noArr = true) (h : Nat.beq x.length n = true) : Ty.fit (.arr n e) x = true := by
  show (Nat.beq x.length n && x.all fun y => e.fit y) = true
  rw [h, Bool.true_and, List.all_eq_true]
  exact fun y _ => fit_noArr hn

section
variable {P : Program} {N : Ev} {X : Cx} {Q : APost} {st : AS}
variable {d : Nat} {T U T' : TypeId} {pos : String} {aft : Array Edge} {g : Option (Nat × Bool)} {x y z : Operand} {k ky : IntKind} {a b : Int}
/-- A value's cells, seen more weakly. -/
theorem wk_agg {t : Nat} {cs cs' : List AV} (hx : st.l.look t = some (.agg cs)) (h : cvL cs' cs) : Wk X st (st.put t (.agg cs')) := by
  intro fr w m ρ φ hc
  obtain ⟨v, h1, h2⟩ := hc.slots t _ hx
  have h2' : RepA m ρ (.agg cs') v := by
    simp only [RepA] at h2 ⊢
    obtain ⟨us, e, q1, q2⟩ := h2
    exact ⟨us, e, cvL_rep h q1, q2⟩
  have h3 := hc.put (d := t) h2'
  refine ⟨m, ρ, φ, h3.mle, h3.pre, h3.nρ, h3.nφ, fun q a hq => ?_, h3.objs, h3.sh⟩
  obtain ⟨u, h4, h5⟩ := h3.slots q a hq
  rw [Fr.look_cons] at h4
  split at h4
  · rename_i e
    subst e
    cases h4
    exact ⟨_, h1, h5⟩
  · exact ⟨u, h4, h5⟩
/-- An element of an array's value. -/
theorem av_index_arr {n E : Nat} {e : Ty} {xs : List e.den} {u : e.den} (hU : Und P T (.array n E)) (hT : TyS P E true e.cells) (hx : aev st.l x = some (.agg (expl (.arr n e) xs))) (hy : aev st.l y = some (.int k a)) (h : aig n xs a = some u) (hN : Nat.blt d N.n = true := by rfl) : AOpV P N X ⟨some d, .index T x y, U, pos, aft, g⟩ (.agg (expl e u)) st :=
  av_of rfl fun Q fr w m ρ φ hc => by
    obtain ⟨h1, h2, h3, h4⟩ := aig_some h
    obtain ⟨h5, h6⟩ := aig_at h
    obtain ⟨p, g1, g2⟩ := hc.ev hx
    simp only [RepA] at g2
    obtain ⟨us, rfl, g3, g4⟩ := g2
    have g5 := (g3.drop (a.toNat * e.cells)).take e.cells
    rw [h5] at g5
    have g6 := g3.len
    refine ⟨.agg ((us.drop (a.toNat * e.cells)).take e.cells).toArray, ?_, fun K hk => op_index g1 (hc.int hy) (fun w => ?_) hN hk⟩
    · simp only [RepA]; exact ⟨_, rfl, g5, fun v hv => g4 v (List.mem_of_mem_drop (List.mem_of_mem_take hv))⟩
    · simp [Instr.index, asIntOf, run_underlying hU, part, hT.1 w, hT.2 w, h2, h3, List.extract_eq_take_drop]
theorem av_ia_rarrG {n E : Nat} {e : Ty} {xs : List e.den} {u : e.den} (hU : Und P T (.array n E)) (hS : Sz P E e.cells) (hx : aev st.l x = some (.rp (expl (.arr n e) xs))) (hy : aev st.l y = some (.int k a)) (h : aig n xs a = some u) (hN : Nat.blt d N.n = true := by rfl) : AOpV P N X ⟨some d, .indexAddr T x y, U, pos, aft, g⟩ (.rp (expl e u)) st :=
  av_of rfl fun Q fr w m ρ φ hc => by
    obtain ⟨h1, h2, h3, h4⟩ := aig_some h
    obtain ⟨h5, h6⟩ := aig_at h
    obtain ⟨p, g1, g2⟩ := hc.ev hx
    simp only [RepA] at g2
    obtain ⟨b, o, us, rfl, g3, g4, g5⟩ := g2
    have g6 := (g3.drop (a.toNat * e.cells)).take e.cells
    rw [h5] at g6
    refine ⟨_, ?_, fun K hk => op_indexArr (c := 0) (j := a.toNat) g1 (hc.int hy) hU hS (by omega) (by omega) hN hk⟩
    simp only [RepA]
    refine ⟨b, _, (us.drop (a.toNat * e.cells)).take e.cells, rfl, g6, fun j v hj => ?_, fun v hv => g5 v (List.mem_of_mem_drop (List.mem_of_mem_take hv))⟩
    rw [List.getElem?_take] at hj
    split at hj
    · rw [List.getElem?_drop] at hj
      obtain ⟨cs', T', fr', q1, q2⟩ := g4 _ _ hj
      exact ⟨cs', T', fr', q1, by rw [← q2]; congr 1; omega⟩
    · cases hj
theorem av_slice_rarrG {n E : Nat} {e : Ty} {xs : List e.den} {hi : Option Operand} {h : Int} (hU : Und P T (.array n E)) (hS : Sz P E e.cells) (hx : aev st.l x = some (.rp (expl (.arr n e) xs))) (hf : Ty.fit (.arr n e) xs = true) (hh : osI st hi (n : Int) h) (hb : slOk 0 h n = true) (hn : Nat.ble n 140737488355328 = true) (hN : Nat.blt d N.n = true := by rfl) :
    AOpV P N X ⟨some d, .slice T x none hi none, U, pos, aft, g⟩ (.sl e (xs.take h.toNat)) st :=
  av_of rfl fun Q fr w m ρ φ hc => by
    simp only [slOk, Bool.and_eq_true, decide_eq_true_eq] at hb
    obtain ⟨⟨_, h1⟩, h2⟩ := hb
    have hf' : (Nat.beq xs.length n && xs.all fun y => e.fit y) = true := hf
    rw [Bool.and_eq_true, List.all_eq_true] at hf'
    have hl := Nat.eq_of_beq_eq_true hf'.1
    have hn' := Nat.le_of_ble_eq_true hn
    obtain ⟨v, g1, g2⟩ := hc.ev hx
    simp only [RepA] at g2
    obtain ⟨bk, o, us, rfl, g3, g4, g5⟩ := g2
    refine ⟨.slice (some ⟨bk, o, none⟩) h.toNat n, ?_, fun K hk => op_val rfl hN (fun ac ha => ?_) hk⟩
    · simp only [RepA, RC]
      refine ⟨_, _, _, rfl, by simp; omega, by omega, (by show h.toNat ≤ 140737488355328; omega), bk, o, fun _ => rfl, fun i y hy => ?_⟩
      have hi2 : i < h.toNat := by have := (List.getElem?_eq_some_iff.1 hy).1; simp at this; omega
      rw [List.getElem?_take, if_pos hi2] at hy
      have ha : aig n xs (i : Int) = some y := by
        unfold aig ix
        rw [hf'.1]
        simp [hy]
      obtain ⟨h5, h6⟩ := aig_at ha
      rw [Int.toNat_natCast] at h5
      have g6 := (g3.drop (i * e.cells)).take e.cells
      rw [h5] at g6
      refine ⟨(us.drop (i * e.cells)).take e.cells, rc_of_expl (hf'.2 y (List.mem_of_getElem? hy)) g6, fun j v hj => ?_⟩
      rw [List.getElem?_take] at hj
      split at hj
      · rw [List.getElem?_drop] at hj
        obtain ⟨cs', T', fr', q1, q2⟩ := g4 _ _ hj
        exact ⟨cs', T', fr', q1, by rw [← q2]; congr 1; omega⟩
      · cases hj
    · have e2 := osI_val hc hh ha
      have hr := run_bounds (P := P) (isS := false) (len := n) (cap := n) (lo := none) (hi := hi.map ac.eval) (l := 0) (h := h) rfl e2 (Int.le_refl _) h1 (by omega) w
      simp [execOp, Instr.sliceAt, Instr.sureAddr, ha.eval g1, run_underlying hU, hr, hS w, add_lit]
end
end Go.Ab


set_option linter.unusedVariables false
set_option linter.unusedSimpArgs false
namespace Go.Ab
open Go.RowKit Go.Shelf Go.Proofs Go.Eng

/-! regions whose order is drawn, in which a new block is made at any time, and used behind all -/
section
variable {P : Program} {N : Ev} {Q : Post} {l : Fr} {w : World}
/-- What is ready is before the turn, or the turn. -/
theorem ready_lt {ops : List Oper} {m : Nat} (hch : Consec m ops) (hnx : ∀ j, j < m → ∃ o, ops[m + 1]? = some o ∧ ∃ e ∈ o.after, Region.binds .any e = true ∧ e.on = j) {listed : Array Bool} (hB : ∀ j, m < j → j < ops.length → listed[j]? = some false) (hnot : ¬ ∀ i, i ≤ m → listed[i]? = some true)
    {i : Nat} {o : Oper} (ho : ops[i]? = some o) (hrd : ∀ e ∈ o.after, Region.binds .any e = true → listed[e.on]? = some true) : i ≤ m := by
  have hlt := (List.getElem?_eq_some_iff.1 ho).1
  rcases Nat.lt_or_ge m i with h | h
  · exfalso
    obtain ⟨e, he, hb, hon⟩ := hch i _ h ho
    have h5 := hrd e he hb
    rw [hon] at h5
    rcases Nat.lt_or_ge m (i - 1) with h6 | h6
    · rw [hB (i - 1) h6 (by omega)] at h5; cases h5
    · have him : i = m + 1 := by omega
      subst him
      apply hnot
      intro j hj
      rcases Nat.lt_or_ge j m with hjm | hjm
      · obtain ⟨o', ho2, e', he', hb', hon'⟩ := hnx j hjm
        rw [ho] at ho2; cases ho2
        rw [← hon']; exact hrd e' he' hb'
      · have e2 : j = m := by omega
        subst e2
        rw [show j + 1 - 1 = j by omega] at h5; exact h5
  · exact h
/-- Something is ready as long as not all is done. -/
theorem some_ready {ops : List Oper} {m : Nat} (hml : m < ops.length) (hback : ∀ (i : Nat) (o : Oper), ops[i]? = some o → ∀ e ∈ o.after, Region.binds .any e = true → e.on < i) {listed : Array Bool} (hs : listed.size = ops.length) (hr : Region.ready .any ops.toArray listed = []) : ∀ i, i ≤ m → listed[i]? = some true := by
  intro i
  induction i using Nat.strongRecOn with
  | _ i ihi =>
    intro him
    rcases hli : listed[i]? with _ | b
    · simp at hli; omega
    · cases b with
      | true => rfl
      | false =>
        exfalso
        have hi : i < ops.length := by omega
        have : i ∈ Region.ready .any ops.toArray listed := by
          simp only [Region.ready, List.mem_filter, List.mem_range, List.size_toArray]
          refine ⟨hi, ?_⟩
          simp only [Array.getD_eq_getD_getElem?, hli, Option.getD_some, Bool.not_false, Bool.true_and]
          have ho0 : ops[i]? = some (ops[i]'hi) := List.getElem?_eq_getElem hi
          have ho : ops.toArray[i]? = some (ops[i]'hi) := by simp
          simp only [ho, Option.map_some, Option.getD_some, Array.all_eq_true']
          intro e he
          by_cases hb : Region.binds .any e = true
          · have hlt := hback i _ ho0 e he hb
            simp only [hb, Bool.not_true, Bool.false_or]
            rw [ihi e.on hlt (by omega)]; rfl
          · simp [hb]
        rw [hr] at this
        cases this
theorem ready_of {ops : List Oper} {listed : Array Bool} (hs : listed.size = ops.length) {i : Nat} (hi : i ∈ Region.ready .any ops.toArray listed) : ∃ o, ops[i]? = some o ∧ ops.toArray[i]? = some o ∧ listed[i]? = some false ∧ ∀ e ∈ o.after, Region.binds .any e = true → listed[e.on]? = some true := by
  simp only [Region.ready, List.mem_filter, List.mem_range, List.size_toArray] at hi
  obtain ⟨hlt, hi⟩ := hi
  rw [Bool.and_eq_true] at hi
  obtain ⟨hun, hrd⟩ := hi
  have ho : ops[i]? = some (ops[i]'hlt) := List.getElem?_eq_getElem hlt
  have ho' : ops.toArray[i]? = some (ops[i]'hlt) := by simp
  refine ⟨_, ho, ho', ?_, ?_⟩
  · have hlt' : i < listed.size := by omega
    rw [Array.getElem?_eq_getElem hlt']
    simp only [Array.getD_eq_getD_getElem?, Array.getElem?_eq_getElem hlt', Option.getD_some] at hun
    simpa using hun
  · intro e he hb
    rw [ho'] at hrd
    simp only [Option.map_some, Option.getD_some, Array.all_eq_true'] at hrd
    have := hrd e he
    simp only [hb, Bool.not_true, Bool.false_or] at this
    rcases hlj : listed[e.on]? with _ | b
    · simp [Array.getD_eq_getD_getElem?, hlj] at this
    · simp [Array.getD_eq_getD_getElem?, hlj] at this; rw [this]
theorem take_at {ops : List Oper} {m : Nat} : ∀ (k : Nat) (o : Oper), (ops.take m)[k]? = some o → ops.toArray[k]? = some o := by
  intro k o h
  rw [List.getElem?_take] at h
  split at h
  · simpa using h
  · cases h
/-- The turn is done: what is left is told; then the tail in one line. -/
theorem alloc_rest {S : World → World → Prop} (hS : SR S) {ops : List Oper} {m : Nat} (hml : m < ops.length) {Φ : List VP} {dep : List (List Nat)} {lb : Fr} (hok : drawOk N.n (ops.take m) dep lb = true) (hch : Consec m ops) (hback : ∀ (i : Nat) (o : Oper), ops[i]? = some o → ∀ e ∈ o.after, Region.binds .any e = true → e.on < i)
    (hnx : ∀ j, j < m → ∃ o, ops[m + 1]? = some o ∧ ∃ e ∈ o.after, Region.binds .any e = true ∧ e.on = j) (hΦ : Φ.length = m) (hmono : Monos S Φ) (hob : Obs P N S (ops.take m) Φ Q lb w (ops.take m) Φ dep)
    (hfin : ∀ a W listed, Mid N S (ops.take m) Φ lb w listed a W → (∀ i, i < m → listed[i]? = some true) → wpListIn (FW N.ro) 0 P ops.toArray (up N Q) (ops.drop (m + 1)) a W) :
    ∀ (fuel : Nat) (listed : Array Bool) (a : Act) (W : World), Mid N S (ops.take m) Φ lb w listed a W → listed.size = ops.length → Shut ops listed → listed[m]? = some true → (∀ j, m < j → j < ops.length → listed[j]? = some false) → (listed.toList.filter (! ·)).length ≤ fuel →
      wpAnyIn (FW N.ro) 0 P .any ops.toArray (up N Q) fuel listed a W := by
  have hlen : (ops.take m).length = m := by simp; omega
  intro fuel
  have start : ∀ (fuel : Nat) (listed : Array Bool) (a : Act) (W : World), Mid N S (ops.take m) Φ lb w listed a W → listed.size = ops.length → (∀ j, j ≤ m → listed[j]? = some true) → (∀ j, m < j → j < ops.length → listed[j]? = some false) → (listed.toList.filter (! ·)).length ≤ fuel →
      wpAnyIn (FW N.ro) 0 P .any ops.toArray (up N Q) fuel listed a W := by
    intro fuel listed a W hmid hs hA hB hf
    have hl : ∀ j, j < ops.length → listed[j]? = some (decide (j < m + 1)) := by
      intro j hj
      by_cases h : j ≤ m
      · rw [hA j h]; simp; omega
      · rw [hB j (by omega) hj]; simp; omega
    have hcnt : ops.length - (m + 1) ≤ (listed.toList.filter (! ·)).length := by
      have e : listed.toList = listed.toList.take (m + 1) ++ listed.toList.drop (m + 1) := (List.take_append_drop _ _).symm
      rw [e, List.filter_append, List.length_append]
      have e2 : (listed.toList.drop (m + 1)).filter (! ·) = listed.toList.drop (m + 1) := by
        rw [List.filter_eq_self]
        intro x hx
        obtain ⟨j, hj, rfl⟩ := List.getElem_of_mem hx
        simp only [List.length_drop, Array.length_toList] at hj
        have := hB (m + 1 + j) (by omega) (by omega)
        rw [Array.getElem?_eq_getElem (by omega)] at this
        simp only [Option.some.injEq] at this
        simp [this]
      rw [e2]; simp; omega
    exact tail_any2 hch hback fuel (m + 1) listed a W (by omega) (by omega) (by omega) hs hl (hfin a W listed hmid fun i hi => hA i (by omega))
  induction fuel with
  | zero =>
    intro listed a W hmid hs hcl hM hB hf
    have hnil : ∀ i, i < ops.length → listed[i]? = some true := by
      intro i hi
      have hfl : listed.toList.filter (! ·) = [] := List.eq_nil_of_length_eq_zero (by omega)
      rw [List.filter_eq_nil_iff] at hfl
      have hlt : i < listed.size := by omega
      have hm := hfl listed[i] (by simp)
      rw [Array.getElem?_eq_getElem hlt]
      simpa using hm
    exact start 0 listed a W hmid hs (fun j hj => hnil j (by omega)) hB hf
  | succ fuel ih =>
    intro listed a W hmid hs hcl hM hB hf
    by_cases hall : ∀ i, i ≤ m → listed[i]? = some true
    · exact start (fuel + 1) listed a W hmid hs hall hB hf
    · refine ⟨fun hr => absurd (some_ready hml hback hs hr) hall, fun i hi => ?_⟩
      obtain ⟨o, ho, ho', hun, hrd⟩ := ready_of hs hi
      have him := ready_lt hch hnx hB hall ho hrd
      have hne : i ≠ m := by rintro rfl; rw [hM] at hun; cases hun
      have hot : (ops.take m)[i]? = some o := by rw [List.getElem?_take, if_pos (by omega)]; exact ho
      refine mid_step hS hok (by rw [hlen]; exact hΦ) hmono hob hmid hot hrd (fun a' W' hm' => ih _ a' W' hm' (by simp [hs]) (shut_set hcl hs ho hrd) ?_ ?_ (count_set hun hf)) take_at
      · rw [Array.getElem?_setIfInBounds_ne hne]; exact hM
      · intro j hj hjl
        rw [Array.getElem?_setIfInBounds_ne (by omega)]
        exact hB j hj hjl
/-- The turn comes at any time. -/
theorem draw_alloc {ops : List Oper} {m : Nat} (hml : m < ops.length) {Φ : List VP} {dep : List (List Nat)} {lb : Fr} (hok : drawOk N.n (ops.take m) dep lb = true) (hch : Consec m ops) (hback : ∀ (i : Nat) (o : Oper), ops[i]? = some o → ∀ e ∈ o.after, Region.binds .any e = true → e.on < i)
    (hnx : ∀ j, j < m → ∃ o, ops[m + 1]? = some o ∧ ∃ e ∈ o.after, Region.binds .any e = true ∧ e.on = j) (hΦ : Φ.length = m) (hmono : Monos (fun w W => Below w.heap.size w W) Φ) (hob : Obs P N (fun w W => Below w.heap.size w W) (ops.take m) Φ Q lb w (ops.take m) Φ dep)
    {op : Oper} (hp : ops[m]? = some op) (hgu : op.guard = none) (hno : ∀ (i : Nat) (o : Oper), i < m → ops[i]? = some o → ∃ d, o.dst = some d ∧ op.dst ≠ some d) {R : World → Fr → World → Prop}
    (hrun : ∀ W, Below w.heap.size w W → OpW P N op (R W) Q lb W)
    (hR : ∀ W l2 W2, Below w.heap.size w W → R W l2 W2 → ∃ Φ2 : List VP, Φ2.length = m ∧ Monos (fun w W => Below w.heap.size w W) Φ2 ∧ drawOk N.n (ops.take m) dep l2 = true ∧ Obs P N (fun w W => Below w.heap.size w W) (ops.take m) Φ2 Q l2 W2 (ops.take m) Φ2 dep ∧
      (∀ (i : Nat) (φ φ2 : VP), Φ[i]? = some φ → Φ2[i]? = some φ2 → ∀ v, φ v W → φ2 v W2) ∧
      ∀ a W3 listed, Mid N (fun w W => Below w.heap.size w W) (ops.take m) Φ2 l2 W2 listed a W3 → (∀ i, i < m → listed[i]? = some true) → wpListIn (FW N.ro) 0 P ops.toArray (up N Q) (ops.drop (m + 1)) a W3) :
    ∀ (fuel : Nat) (listed : Array Bool) (a : Act) (W : World), Mid N (fun w W => Below w.heap.size w W) (ops.take m) Φ lb w listed a W → listed.size = ops.length → Shut ops listed → (∀ j, m ≤ j → j < ops.length → listed[j]? = some false) → (listed.toList.filter (! ·)).length ≤ fuel →
      wpAnyIn (FW N.ro) 0 P .any ops.toArray (up N Q) fuel listed a W := by
  have hlen : (ops.take m).length = m := by simp; omega
  intro fuel
  induction fuel with
  | zero =>
    intro listed a W hmid hs hcl hB hf
    exfalso
    have hfl : listed.toList.filter (! ·) = [] := List.eq_nil_of_length_eq_zero (by omega)
    rw [List.filter_eq_nil_iff] at hfl
    have hlt : m < listed.size := by omega
    have hm := hfl listed[m] (by simp)
    have := hB m (Nat.le_refl _) hml
    rw [Array.getElem?_eq_getElem hlt] at this
    simp only [Option.some.injEq] at this
    rw [this] at hm; simp at hm
  | succ fuel ih =>
    intro listed a W hmid hs hcl hB hf
    have hall : ¬ ∀ i, i ≤ m → listed[i]? = some true := fun h => by
      have h1 := h m (Nat.le_refl _)
      rw [hB m (Nat.le_refl _) hml] at h1; cases h1
    refine ⟨fun hr => absurd (some_ready hml hback hs hr) hall, fun i hi => ?_⟩
    obtain ⟨o, ho, ho', hun, hrd⟩ := ready_of hs hi
    have him := ready_lt hch hnx (fun j hj => hB j (by omega)) hall ho hrd
    have hcount := count_set hun hf
    rcases Nat.lt_or_ge i m with h | h
    · have hot : (ops.take m)[i]? = some o := by rw [List.getElem?_take, if_pos h]; exact ho
      refine mid_step sr_below hok (by rw [hlen]; exact hΦ) hmono hob hmid hot hrd (fun a' W' hm' => ih _ a' W' hm' (by simp [hs]) (shut_set hcl hs ho hrd) ?_ hcount) take_at
      intro j hj hjl
      rw [Array.getElem?_setIfInBounds_ne (by omega)]
      exact hB j hj hjl
    · have e : i = m := by omega
      subst e
      rw [hp] at ho; cases ho
      unfold wpOpIn
      rw [ho']
      simp only []
      rw [if_pos (by simp [Region.wanted, hgu])]
      refine Oper.wpIn_mono ?_ (Oper.wpIn_frame (hrun W hmid.below a hmid.base hmid.good))
      rintro a' W' ⟨⟨l₁, hl₁, hgd, hr⟩, u, hu⟩
      obtain ⟨Φ2, q1, q2, q3, q4, q5, q6⟩ := hR W l₁ W' hmid.below hr
      refine alloc_rest sr_below hml q3 hch hback hnx q1 q2 q4 q6 fuel _ a' W' ⟨sr_below.refl _, hl₁, hgd, ?_⟩ (by simp [hs]) (shut_set hcl hs hp hrd) ?_ ?_ hcount
      · intro j o2 φ2 ho2 hφ2 hlj
        have hjm : j < i := by have := (List.getElem?_eq_some_iff.1 ho2).1; rw [hlen] at this; exact this
        rw [Array.getElem?_setIfInBounds_ne (by omega)] at hlj
        have hφ : Φ[j]? = some (Φ[j]'(by omega)) := List.getElem?_eq_getElem (by omega)
        have hdn := hmid.done j o2 _ ho2 hφ hlj
        have hoj : ops[j]? = some o2 := by rw [List.getElem?_take, if_pos hjm] at ho2; exact ho2
        obtain ⟨d, hd, hne⟩ := hno j o2 hjm hoj
        unfold toldA at hdn ⊢
        rw [hd] at hdn ⊢
        obtain ⟨v, hv, hφv⟩ := hdn
        refine ⟨v, ?_, q5 j _ _ hφ hφ2 v hφv⟩
        rw [hu]
        cases hx : op.dst with
        | none => exact hv
        | some d' =>
          rw [hx] at hne
          simp only [Act.put, Array.getElem?_setIfInBounds_ne (fun e : d' = d => hne (by rw [e]))]
          exact hv
      · rw [Array.getElem?_setIfInBounds_self_of_lt (by omega)]
      · intro j hj hjl
        rw [Array.getElem?_setIfInBounds_ne (by omega)]
        exact hB j (by omega) hjl
end

theorem told_imp {o : Oper} {φ φ2 : VP} {a : Act} {W : World} (h : ∀ v, φ v W → φ2 v W) (k : toldA o φ a W) : toldA o φ2 a W := by
  unfold toldA at k ⊢
  split at k
  · rename_i d hd
    obtain ⟨v, h1, h2⟩ := k
    exact ⟨v, h1, h v h2⟩
  · exact h _ k
section
variable {P : Program} {N : Ev} {X : Cx} {Q : APost} {st : AS}
variable {d : Nat} {T U : TypeId} {pos : String} {aft : Array Edge}
def allLate (ops : List Oper) (q d : Nat) : Bool := (List.range q).all fun j => (match ops[q + 1]? with
  | some o => o.after.toList.any fun e => Region.binds .any e && Nat.beq e.on j
  | none => false) && (match ops[j]? with
  | some o => (match o.dst with
    | some d' => !Nat.beq d d'
    | none => false)
  | none => false)
/-- Values told on both sides of a new variable, which is used behind them all. -/
theorem awc_draw_alloc {id : Nat} {ops : List Oper} (q : Nat) (hm : P.follows .mixedOrders = true) (ks : List Nat) (Ts : List TT) (dep : List (List Nat)) (live : List Nat) {z : Value} {cs : List AV} (hks : (ks.all fun t => (st.l.look t).isSome) = true) (hq : Nat.blt q ops.length = true) (hok : drawOkK N.n (ops.take q) dep ks = true) (hok2 : drawOkK N.n (ops.take q) dep (d :: ks) = true) (hch : consecOk q ops = true) (hlt : allLate ops q d = true) (hback : backOk ops = true) (hTs : Nat.beq Ts.length q = true) (hlv : (live.all fun i => Nat.blt i q) = true) (hdp : depsOk (ops.take q) (live :: dep) = true)
    (hop : ops[q]? = some ⟨some d, .alloc T, U, pos, aft, none⟩) (hdk : memB d ks = false) (hN : Nat.blt d N.n = true) (hZ : Zero P T z) (hcs : cellsA (ofV z) = some cs)
    (hob : ∀ F, AObs P N ⟨X.e, X.m, X.ρ, F⟩ (ops.take q) Ts (keepF st.l ks) st.H st.n (ops.take q) Ts dep) (hall : ∀ j ∈ live, (ttAt Ts j).1 = true)
    (k : AWL P N X ops.toArray Q (ops.drop (q + 1)) ⟨depF (ops.take q) Ts live ((d, .ptr st.n 0) :: keepF st.l ks), (st.n, .var T cs) :: st.H, st.n + 1⟩) : AWC P N X (.region id ops.toArray true) Q st := by
  intro fr w m ρ φ hc
  obtain ⟨lb, h1, h2, h3⟩ := keep_conc hc hks
  have hq' : q < ops.length := by simpa using hq
  have hl : Ts.length = (ops.take q).length := by rw [Nat.eq_of_beq_eq_true hTs, List.length_take]; omega
  have hTl := Nat.eq_of_beq_eq_true hTs
  simp only [depsOk, List.all_cons, Bool.and_eq_true] at hdp
  have hlt' : ∀ j, j < q → (∃ o, ops[q + 1]? = some o ∧ ∃ e ∈ o.after, Region.binds .any e = true ∧ e.on = j) ∧ ∀ o, ops[j]? = some o → ∃ d', o.dst = some d' ∧ d ≠ d' := fun j hj => by
    have := (List.all_eq_true.1 hlt) j (List.mem_range.2 hj)
    rw [Bool.and_eq_true] at this
    obtain ⟨u1, u2⟩ := this
    constructor
    · split at u1
      · rename_i o ho
        rw [List.any_eq_true] at u1
        obtain ⟨e, he, hb⟩ := u1
        simp only [Bool.and_eq_true] at hb
        exact ⟨o, ho, e, Array.mem_toList_iff.1 he, hb.1, Nat.eq_of_beq_eq_true hb.2⟩
      · cases u1
    · intro o ho
      rw [ho] at u2
      simp only at u2
      split at u2
      · rename_i d' hd
        exact ⟨d', hd, fun e => by subst e; simp at u2⟩
      · cases u2
  obtain ⟨r3, r4⟩ := rep_cells (m := m) (ρ := ρ) hcs (rep_ofV m ρ z)
  intro a ha hg
  refine wpIn_region_any hm ?_
  refine draw_alloc (w := { w with drawn := w.drawn + 1 }) (Φ := Ts.map (phi X.e m ρ (φ.flatten ++ X.F))) (dep := dep) (lb := lb) hq' (draw_keys (by rw [h1]; exact hok)) (consec_of hch) (back_of hback) (fun j hj => (hlt' j hj).1) (by rw [List.length_map]; exact hTl) (monos_phi Ts) ((obs_of hl h3 hdp.2 (hob X.F)).drawn sr_below) hop rfl ?_
    (R := fun W l2 W2 => ∃ b, l2 = (d, .pointer (some ⟨b, 0, none⟩)) :: lb ∧ New W W2 b (.cells z.cells T)) ?_ ?_ _ _ _ _ ?_ (by simp) ?_ ?_ ?_
  · intro i o hi ho
    obtain ⟨d', e1, e2⟩ := (hlt' i hi).2 o ho
    exact ⟨d', e1, fun e => e2 (Option.some.inj e)⟩
  · intro W hW
    exact op_alloc hZ hN fun w' b hn => ⟨b, rfl, hn⟩
  · rintro W l2 W2 hW ⟨b, rfl, hn⟩
    have hW' := sr_below.drawn _ _ _ hW
    have hcW := h3.grow (Mem.le_refl _) (h3.sh.ext hW')
    have hsh := hcW.sh.alloc hn rfl
    have hperm : ((b, Obj.cells z.cells T) :: (φ.flatten ++ X.F)).Perm (φ.flatten ++ ((b, Obj.cells z.cells T) :: X.F)) := List.perm_middle.symm
    have hperm2 : (φ.flatten ++ ((b, Obj.cells z.cells T) :: X.F)).Perm ((φ ++ [[(b, Obj.cells z.cells T)]]).flatten ++ X.F) := by
      rw [List.flatten_append, List.append_assoc]
      exact List.Perm.refl _
    let Xb : Cx := ⟨X.e, X.m, X.ρ, (b, Obj.cells z.cells T) :: X.F⟩
    have hcb : Conc Xb ⟨keepF st.l ks, st.H, st.n⟩ ((d, .pointer (some ⟨b, 0, none⟩)) :: lb) W2 m ρ φ := by
      refine ⟨hcW.mle, hcW.pre, hcW.nρ, hcW.nφ, fun t a' ht => ?_, hcW.objs, hsh.perm hperm⟩
      obtain ⟨u, u1, u2⟩ := hcW.slots t a' ht
      refine ⟨u, ?_, u2⟩
      rw [Fr.look_cons, if_neg (fun e => ?_)]
      · exact u1
      · subst e
        have := look_keys (l := lb) (d := d)
        rw [h1, hdk] at this
        rw [u1] at this
        simp at this
    refine ⟨Ts.map (phi X.e m ρ (φ.flatten ++ Xb.F)), by rw [List.length_map]; exact hTl, monos_phi Ts, draw_keys (by rw [List.map_cons, h1]; exact hok2), obs_of (X := Xb) hl hcb hdp.2 (hob _), ?_, ?_⟩
    · intro i φ1 φ2 e1 e2 v hv
      rw [List.getElem?_map] at e1 e2
      cases ht : Ts[i]? with
      | none => rw [ht] at e1; cases e1
      | some TT' =>
        rw [ht] at e1 e2
        simp only [Option.map_some, Option.some.injEq] at e1 e2
        subst e1 e2
        refine ⟨fun h => ?_, hv.2⟩
        obtain ⟨m', g1, g2, g3⟩ := hv.1 h
        exact ⟨m', g1, (g2.alloc hn rfl).perm hperm, g3⟩
    · intro a1 W3 listed hmid hdone
      have hW3 := hmid.below
      have hnew : Conc X ⟨(d, .ptr st.n 0) :: keepF st.l ks, (st.n, .var T cs) :: st.H, st.n + 1⟩ ((d, .pointer (some ⟨b, 0, none⟩)) :: lb) W2 m (ρ ++ [.pointer (some ⟨b, 0, none⟩)]) (φ ++ [[(b, Obj.cells z.cells T)]]) := by
        refine hcW.newObj (d := d) (av := .ptr st.n 0) (o := .var T cs) (h := .pointer (some ⟨b, 0, none⟩)) (f := [(b, Obj.cells z.cells T)]) (Mem.le_refl _) hsh ?_ ?_
        · exact ⟨b, z.cells.toList, rfl, by simp, RepL.mono (Mem.le_refl _) pre_app cs r3, r4⟩
        · simp only [RepA]
          exact ⟨b, by rw [← hcW.nρ]; simp, rfl⟩
      have hnew3 := hnew.grow (Mem.le_refl _) (hnew.sh.ext hW3)
      have hmid3 : Mid N (fun w W => Below w.heap.size w W) (ops.take q) (Ts.map (phi X.e m (ρ ++ [.pointer (some ⟨b, 0, none⟩)]) ((φ ++ [[(b, Obj.cells z.cells T)]]).flatten ++ X.F))) ((d, .pointer (some ⟨b, 0, none⟩)) :: lb) W2 listed a1 W3 := by
        refine ⟨hmid.below, hmid.base, hmid.good, fun i o φ3 ho hφ3 hli => ?_⟩
        rw [List.getElem?_map] at hφ3
        cases ht : Ts[i]? with
        | none => rw [ht] at hφ3; cases hφ3
        | some TT' =>
          rw [ht] at hφ3
          simp only [Option.map_some, Option.some.injEq] at hφ3
          subst hφ3
          refine told_imp (fun v hv => ?_) (hmid.done i o (phi X.e m ρ (φ.flatten ++ Xb.F) TT') ho (by rw [List.getElem?_map, ht]; rfl) hli)
          refine ⟨fun h => ?_, hv.2⟩
          obtain ⟨m', g1, g2, g3⟩ := hv.1 h
          exact ⟨m', g1, g2.perm hperm2, RepA.mono (Mem.le_refl _) pre_app _ g3⟩
      have hG : Gather (depAt (ops.take q) (Ts.map (phi X.e m (ρ ++ [.pointer (some ⟨b, 0, none⟩)]) ((φ ++ [[(b, Obj.cells z.cells T)]]).flatten ++ X.F))) live) ((d, .pointer (some ⟨b, 0, none⟩)) :: lb) W3 fun l' => WL P N ops.toArray (upQ X Q) (ops.drop (q + 1)) l' W3 := by
        refine gather_df (phi_at hl) hdp.1 fun l' hl' => ?_
        obtain ⟨m', h4, h5⟩ := conc_df hl' (Mem.le_refl _) hnew3 hall
        exact k _ _ _ _ _ h5
      obtain ⟨l', hl', h⟩ := Gather.use hG hmid3.base (live_told hmid3 (m := q) (by simp; omega) (by rw [List.length_map]; omega) hlv hdone)
      exact h a1 hl' hmid3.good
  · refine ⟨sr_below.refl _, ha.sub h2, hg.step rfl (fun _ _ h _ _ => h) (Nat.le_refl _), ?_⟩
    intro i o φ _ _ hi
    simp [Array.getElem?_replicate] at hi
  · intro i o _ hi
    simp [Array.getElem?_replicate] at hi
  · intro j hj hjl
    simp [Array.getElem?_replicate, hjl]
  · simp
end
end Go.Ab


set_option linter.unusedVariables false
namespace Go.Ab
open Go
def pAwake : Option Bool := some true
def fCut (s sep : Str) : Option (Str × Str × Bool) := bif Nat.blt s.length 4294967281 then some (Lib.cut s sep) else none
def fJoin (xs : List Str) (sep : Str) : Option Str := bif Nat.ble xs.length 140737488355328 && Nat.ble (Lib.join xs sep).length 140737488355328 then some (Lib.join xs sep) else none
def fSplit (s sep : Str) : Option (List Str) := bif Nat.blt s.length 4294967281 && Nat.ble 1 sep.length then some ((Lib.splitB (bstr sep) 0 (Lib.countB (bstr s) (bstr sep)) (bstr s)).map fun b => b.data.toList) else none
def fAtoi (s : Str) : Option (Int × Unit) := bif Nat.ble s.length 281474976710656 then some (match Lib.atoiAll s with
  | .ok v => v
  | .range => Lib.atoiSat s
  | _ => 0, ()) else none
def fIndex (s sep : Str) : Option Int := bif Nat.blt s.length 4294967281 then some (Lib.index s sep) else none
end Go.Ab

