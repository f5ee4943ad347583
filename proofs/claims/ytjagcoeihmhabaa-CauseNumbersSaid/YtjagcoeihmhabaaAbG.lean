/- Lemmas for a law of the seat: what functions of the program do, each stated as a contract of its own (module AbG). -/
import Derived.Test.YtjagcoeihmhabaaAbF
set_option linter.unusedVariables false
set_option linter.unusedSimpArgs false
namespace Go.Ab
open Go.RowKit Go.Shelf Go.Proofs Go.Eng

/-! filling in -/
theorem over_cons {α : Type} (d : α) : ∀ (ds cs : List α) (o : Nat), over cs o (d :: ds) = over (cs.set o d) (o + 1) ds := fun _ _ _ => rfl
theorem fold_over : ∀ (vs : List Value) (cs : Array Value) (off k : Nat), ((vs.zipIdx k).foldl (fun cs (p : Value × Nat) => cs.setIfInBounds (off + p.2) p.1) cs).toList = over cs.toList (off + k) vs := by
  intro vs
  induction vs with
  | nil => intro cs off k; rfl
  | cons v vs ih => intro cs off k; rw [List.zipIdx_cons, List.foldl_cons, ih, over_cons]; simp [Nat.add_assoc]
theorem zip_arr (a : Array Value) (f : Array Value → Value × Nat → Array Value) (z : Array Value) : a.zipIdx.foldl f z = (a.toList.zipIdx).foldl f z := by
  rw [← Array.foldl_toList, Array.toList_zipIdx]

/-- Parts laid one behind the other. -/
def layA (place : Nat → Option (Nat × Nat)) : List AV → List (Nat × List AV) → Option (List AV)
  | cs, [] => some cs
  | cs, (i, ds) :: r => match place i with
    | none => none
    | some (off, size) => bif Nat.beq ds.length size && Nat.ble (off + ds.length) cs.length then layA place (over cs off ds) r else none

theorem lay_fill {m : Mem} {ρ : List Value} {place : Nat → Option (Nat × Nat)} : ∀ {ps : List (Nat × List AV)} {vs : List (Nat × Value)} {cs cs' : List AV} {us : Array Value},
    layA place cs ps = some cs' → vs.map (·.1) = ps.map (·.1) → (∀ (i : Nat) (p : Nat × List AV) (v : Nat × Value), ps[i]? = some p → vs[i]? = some v → RepL m ρ p.2 v.2.cells.toList ∧ ∀ u ∈ v.2.cells.toList, u.oneCell' = true) → RepL m ρ cs us.toList → (∀ u ∈ us.toList, u.oneCell' = true) →
    ∃ us', Instr.fill place us vs = some us' ∧ RepL m ρ cs' us'.toList ∧ ∀ u ∈ us'.toList, u.oneCell' = true := by
  intro ps
  induction ps with
  | nil =>
    intro vs cs cs' us h hv _ hc h1
    cases vs with
    | nil => simp only [layA, Option.some.injEq] at h; subst h; exact ⟨us, rfl, hc, h1⟩
    | cons => simp at hv
  | cons p ps ih =>
    intro vs cs cs' us h hv hr hc h1
    cases vs with
    | nil => simp at hv
    | cons v vs =>
      obtain ⟨i, ds⟩ := p
      obtain ⟨j, v⟩ := v
      simp only [List.map_cons, List.cons.injEq] at hv
      obtain ⟨rfl, hv⟩ := hv
      simp only [layA] at h
      split at h
      · cases h
      · rename_i off size hp
        cases hb : (Nat.beq ds.length size && Nat.ble (off + ds.length) cs.length)
        · rw [hb] at h; cases h
        · rw [hb] at h
          simp only [cond_true] at h
          simp only [Bool.and_eq_true] at hb
          have hb1 := Nat.eq_of_beq_eq_true hb.1
          have hb2 := Nat.le_of_ble_eq_true hb.2
          obtain ⟨h2, h3⟩ := hr 0 (j, ds) (j, v) rfl rfl
          have hvl : v.cells.size = ds.length := by simpa using h2.len
          have hul := hc.len
          have hus : us.toList.length = us.size := by simp
          simp only [Instr.fill, hp]
          rw [if_neg (by simp; omega)]
          refine ih h hv (fun i p u hp hu => hr (i + 1) p u (by simpa using hp) (by simpa using hu)) ?_ ?_
          · rw [zip_arr, fold_over, Nat.add_zero]; exact hc.over h2
          · rw [zip_arr, fold_over, Nat.add_zero]; exact over_one h1 h3

def evas (l : AFr) (ps : List (Nat × Operand)) : List (Option (Nat × List AV)) := ps.map fun p => (aev l p.2).bind fun a => (cellsA a).map fun cs => (p.1, cs)

section
variable {P : Program} {N : Ev} {X : Cx} {Q : APost} {st : AS}
variable {d : Nat} {T U T' : TypeId} {pos : String} {aft : Array Edge} {g : Option (Nat × Bool)} {x y : Operand} {k ky : IntKind} {a b : Int}

theorem Conc.evs {fr : Fr} {w : World} {m : Mem} {ρ : List Value} {φ : List Frag} (hc : Conc X st fr w m ρ φ) : ∀ {ps : List (Nat × Operand)} {qs : List (Nat × List AV)}, evas st.l ps = qs.map some →
    ∃ vs, evos fr ps = some vs ∧ vs.map (·.1) = qs.map (·.1) ∧ ∀ (i : Nat) (p : Nat × List AV) (v : Nat × Value), qs[i]? = some p → vs[i]? = some v → RepL m ρ p.2 v.2.cells.toList ∧ ∀ u ∈ v.2.cells.toList, u.oneCell' = true := by
  intro ps
  induction ps with
  | nil => intro qs h; cases qs with
    | nil => exact ⟨[], rfl, rfl, fun i p v hp => by simp at hp⟩
    | cons => simp [evas] at h
  | cons p ps ih => intro qs h; cases qs with
    | nil => simp [evas] at h
    | cons q qs =>
      simp only [evas, List.map_cons, List.cons.injEq] at h
      obtain ⟨h1, h2⟩ := h
      obtain ⟨vs, h3, h4, h5⟩ := ih h2
      obtain ⟨a, ha, hb⟩ := Option.bind_eq_some_iff.1 h1
      obtain ⟨cs, hcs, hq⟩ := Option.map_eq_some_iff.1 hb
      subst hq
      obtain ⟨v, h6, h7⟩ := hc.ev ha
      obtain ⟨i, x⟩ := p
      refine ⟨(i, v) :: vs, by simp only [evos]; rw [h6, h3], by simp [h4], fun j p u hp hu => ?_⟩
      cases j with
      | zero => simp at hp hu; subst hp hu; exact rep_cells hcs h7
      | succ j => exact h5 j p u (by simpa using hp) (by simpa using hu)

/-- How a struct or an array is built. -/
def BuildT (P : Program) (T : Nat) (z : Value) (place : Nat → Option (Nat × Nat)) : Prop := ∀ ps w, (Instr.build T ps).run P w = (match Instr.fill place z.cells ps.toList with
  | some cells => Result.ok (.agg cells) w
  | none => (Instr.build T ps).run P w)
theorem av_build {z : Value} {zs : List AV} {place : Nat → Option (Nat × Nat)} {ps : List (Nat × Operand)} {qs : List (Nat × List AV)} {cs : List AV} (hT : BuildT P T z place) (hz : cellsA (ofV z) = some zs) (hx : evas st.l ps = qs.map some) (hl : layA place zs qs = some cs) (hN : Nat.blt d N.n = true := by rfl) :
    AOpV P N X ⟨some d, .build T ps.toArray, U, pos, aft, g⟩ (.agg cs) st :=
  av_of rfl fun Q fr w m ρ φ hc => by
    obtain ⟨vs, h1, h2, h3⟩ := hc.evs hx
    obtain ⟨h4, h5⟩ := rep_cells hz (rep_ofV m ρ z)
    obtain ⟨us, h6, h7, h8⟩ := lay_fill hl h2 h3 h4 h5
    refine ⟨.agg us, ?_, fun K hk => op_build h1 (fun w => ?_) hN hk⟩
    · simp only [RepA]; exact ⟨us.toList, by simp, h7, h8⟩
    · rw [hT]; simp [h6]
theorem buildT_struct {z : Value} {fs : Array Field} {pl : List (Nat × Nat)} (hz : Zero P T z) (hu : P.underlying T = some (.struct fs)) (hp : ∀ w, (fs.mapM (fun f => do pure (f.offset, ← sizeOf f.type) : Field → Sem (Nat × Nat))).run P w = .ok pl.toArray w) : BuildT P T z (fun i => pl[i]?) := by
  intro ps w
  split
  · rename_i cells h
    simp only [Instr.build, Sem.run_bind, hz w, Result.andThen_ok, run_underlying hu, hp w]
    simp [h]
  · rfl
theorem buildT_array {z : Value} {n e sz : Nat} (hz : Zero P T z) (hu : P.underlying T = some (.array n e)) (hs : Sz P e sz) : BuildT P T z (fun i => some (i * sz, sz)) := by
  intro ps w
  split
  · rename_i cells h
    simp only [Instr.build, Sem.run_bind, hz w, Result.andThen_ok, run_underlying hu, hs w]
    simp [h]
  · rfl

/-- A literal slice that is read alone. -/
def BuildS (P : Program) (T E : Nat) (t : Ty) : Prop := P.underlying T = some (.slice E) ∧ ∃ i z, P.info? E = some i ∧ i.zero = some z ∧ i.size = t.cells ∧ z.cells.toList = zeroV t
theorem zeroV_one : ∀ (t : Ty), ∀ u ∈ zeroV t, u.oneCell' = true := fun t u hu => (rc_zero (fun _ => none) t).one u hu

theorem run_buildSlice {w : World} {E : Nat} {t : Ty} {ps : Array (Nat × Value)} {n : Nat} (hT : BuildS P T E t) (hn : Nat.ble (n * t.cells) 16777216 = true) {us : Array Value} :
    ∃ zs : Array Value, zs.toList = (List.replicate n (zeroV t)).flatten ∧ (Instr.fill (fun i => some (i * t.cells, t.cells)) zs ps.toList = some us → (Instr.buildSlice T n ps).run P w = .ok (.slice (some ⟨w.heap.size, 0, none⟩) n n) { w with heap := w.heap.push (.cells us E) }) := by
  obtain ⟨hu, i, z, hi, hz, hs, hzs⟩ := hT
  have hn' := Nat.le_of_ble_eq_true hn
  have hzsz : z.cells.size = t.cells := by have := (rc_zero (fun _ => none) t).len; rw [← hzs] at this; simpa using this
  by_cases h0 : n * t.cells = 0
  · refine ⟨#[], ?_, fun h => ?_⟩
    · have : (List.replicate n (zeroV t)).flatten.length = 0 := by
        rw [flatten_len (k := t.cells) (by simp : (List.replicate n (zeroV t)).length = n), h0]
        intro u hu; rw [List.eq_of_mem_replicate hu]; exact (rc_zero (fun _ => none) t).len
      exact (List.eq_nil_of_length_eq_zero this).symm
    · simp [Instr.buildSlice, run_underlying hu, sizeOf, typeInfo, hi, hs, h0, Array.range_zero', h, newRow]
  · refine ⟨madeCells z.cells (n * t.cells), ?_, fun h => ?_⟩
    · rw [← hzsz]; exact made_rows hzs n
    · have hno : ¬ (16777216 < n * t.cells) := by omega
      have h' : Instr.fill (fun i => some (i * t.cells, t.cells)) ((Array.range (n * t.cells)).map (z.cells[· % z.cells.size]!)) ps.toList = some us := h
      simp [Instr.buildSlice, run_underlying hu, sizeOf, typeInfo, hi, hs, h0, hno, zeroValue, hz, h', newRow]

theorem rows_of_expl {m : Mem} {ρ : List Value} {t : Ty} (hno : t.noArr = true) : ∀ {ys : List t.den} {vs : List Value}, RepL m ρ ((ys.map (expl t)).flatten) vs → RowsC m t ys vs := by
  intro ys
  induction ys with
  | nil => intro vs h; cases vs with
    | nil => exact RowsC.nil
    | cons => simp [RepL] at h
  | cons y ys ih =>
    intro vs h
    simp only [List.map_cons, List.flatten_cons] at h
    obtain ⟨u1, u2, rfl, g1, g2⟩ := RepL.split h
    refine RowsC.app (x := [y]) ⟨[u1], rfl, by simp, fun i e u he hu => ?_⟩ (ih g2)
    cases i with
    | zero => simp at he hu; subst he hu; exact rc_of_expl hno g1
    | succ i => simp at he
theorem av_buildSlice {E n : Nat} {t : Ty} {ps : List (Nat × Operand)} {qs : List (Nat × List AV)} {zs cs : List AV} {ys : List t.den} (hT : BuildS P T E t) (hx : evas st.l ps = qs.map some) (hz : ((List.replicate n (zeroV t)).flatten).map ofV1 = zs) (hl : layA (fun i => some (i * t.cells, t.cells)) zs qs = some cs) (hy : (ys.map (expl t)).flatten = cs) (hn : Nat.beq ys.length n = true) (hc : Nat.ble (n * t.cells) 16777216 = true) (hc1 : Nat.ble n 16777216 = true) (hno : t.noArr = true) (hN : Nat.blt d N.n = true := by rfl) :
    AOpV P N X ⟨some d, .buildSlice T n ps.toArray, U, pos, aft, g⟩ (.sl t ys) st := by
  intro Q fr w m ρ φ hcc
  obtain ⟨vs, h1, h2, h3⟩ := hcc.evs hx
  have hzl := run_buildSlice (w := w) (ps := vs.toArray) hT hc (us := #[])
  have hz' : ∀ (l : List Value), RepL m ρ (l.map ofV1) l := by
    intro l
    induction l with
    | nil => simp [RepL]
    | cons v l ih => simp only [List.map_cons, RepL]; exact ⟨rep_ofV1 m ρ v, ih⟩
  obtain ⟨zz, hzz, _⟩ := hzl
  obtain ⟨us, h6, h7, h8⟩ := lay_fill (us := zz) hl h2 h3 (by rw [← hz, hzz]; exact hz' _) (by
    rw [hzz]; intro u hu
    obtain ⟨r, hr, hur⟩ := List.mem_flatten.1 hu
    rw [List.eq_of_mem_replicate hr] at hur
    exact zeroV_one t u hur)
  obtain ⟨zz', hzz', hrun⟩ := run_buildSlice (w := w) (ps := vs.toArray) hT hc (us := us)
  have hzeq : zz' = zz := Array.toList_inj.1 (hzz'.trans hzz.symm)
  subst hzeq
  have hr := hrun (by simpa using h6)
  have hn' := Nat.eq_of_beq_eq_true hn
  refine op_val (v := .slice (some ⟨w.heap.size, 0, none⟩) n n) rfl hN (fun s hs => ?_) ?_ (dk_new (new_push w (.cells us E)))
  · have e := evos_eval hs h1
    simp only [execOp, List.map_toArray, Sem.run_bind]
    rw [show (List.map (fun (x : Nat × Operand) => match x with | (i, x) => (i, s.eval x)) ps) = vs from e, hr]
    rfl
  · have hs := hcc.sh.alloc (new_push w (.cells us E)) rfl
    refine ⟨d, _, rfl, rfl, (new_push w _).ext, m.add [(w.heap.size, .cells us E)], Mem.le_add _ _, SH.frz (g := [(w.heap.size, .cells us E)]) (by simpa using hs), ?_⟩
    simp only [RepA]
    have hmem : m.add [(w.heap.size, .cells us E)] w.heap.size = some (.cells us E) := add_get (by simp) (by simp) (by have := hs.dis (w.heap.size, .cells us E) (by simp); exact this)
    have hrows : RowsC m t ys us.toList := by rw [← hy] at h7; exact rows_of_expl hno h7
    have h47 : cap47 = 140737488355328 := rfl
    have hc1' := Nat.le_of_ble_eq_true hc1
    have := rows_slice (c := n) hmem (RowsC.mono (Mem.le_add m [(w.heap.size, .cells us E)]) hrows) (by rw [← hrows.len, List.take_length]) (by omega) (by omega)
    rw [hn'] at this; exact this

/-! parts of structs -/
/-- What a field of a struct's value is. -/
def FieldV (P : Program) (T f off : Nat) (b : Bool) (n : Nat) : Prop := ∀ cs w, off + n ≤ cs.size → n = n → (Instr.field T (.agg cs) f).run P w = .ok (if b then .agg (cs.extract off (off + n)) else cs[off]?.getD undef) w
theorem fieldV_of {fs : Array Field} {fl : Field} {f off : Nat} {b : Bool} {n : Nat} (hu : P.underlying T = some (.struct fs)) (hf : fs[f]? = some fl) (ho : fl.offset = off) (hT : TyS P fl.type b n) (hn : b = false → n = 1) : FieldV P T f off b n := by
  intro cs w hl _
  subst ho
  cases b with
  | true => simp [Instr.field, run_underlying hu, hf, part, Sem.run_bind, hT.1 w, hT.2 w, asAgg]
  | false =>
    have := hn rfl
    subst this
    have : cs[fl.offset]? = some (cs[fl.offset]'(by omega)) := Array.getElem?_eq_getElem (by omega)
    simp [Instr.field, run_underlying hu, hf, part, Sem.run_bind, hT.1 w, asAgg, this]
theorem av_field {f off : Nat} {cs : List AV} {v : AV} {r : List AV} (hf : FieldV P T f off false 1) (hx : aev st.l x = some (.agg cs)) (hd : cs.drop off = v :: r) (hN : Nat.blt d N.n = true := by rfl) : AOpV P N X ⟨some d, .field T x f, U, pos, aft, g⟩ v st :=
  av_of rfl fun Q fr w m ρ φ hc => by
    obtain ⟨p, h1, h2⟩ := hc.ev hx
    simp only [RepA] at h2
    obtain ⟨us, rfl, h3, h4⟩ := h2
    have h5 := h3.drop off
    rw [hd] at h5
    obtain ⟨u, us', h6, h7, _⟩ := h5.one1
    have h8 : us[off]? = some u := by
      have : (us.drop off)[0]? = some u := by rw [h6]; rfl
      rw [List.getElem?_drop] at this
      simpa using this
    have hl := (List.getElem?_eq_some_iff.1 h8).1
    refine ⟨u, h7, fun K hk => op_field h1 (fun w => ?_) hN hk⟩
    rw [hf us.toArray w (by simp; omega) rfl]
    simp [h8]
theorem av_fieldN {f off n : Nat} {cs ds : List AV} (hf : FieldV P T f off true n) (hx : aev st.l x = some (.agg cs)) (hd : (cs.drop off).take n = ds) (hl : Nat.ble (off + n) cs.length = true) (hN : Nat.blt d N.n = true := by rfl) : AOpV P N X ⟨some d, .field T x f, U, pos, aft, g⟩ (.agg ds) st :=
  av_of rfl fun Q fr w m ρ φ hc => by
    obtain ⟨p, h1, h2⟩ := hc.ev hx
    simp only [RepA] at h2
    obtain ⟨us, rfl, h3, h4⟩ := h2
    have hl' := Nat.le_of_ble_eq_true hl
    subst hd
    have h5 := (h3.drop off).take n
    have h6 := h3.len
    refine ⟨.agg ((us.drop off).take n).toArray, ?_, fun K hk => op_field h1 (fun w => ?_) hN hk⟩
    · simp only [RepA]; exact ⟨_, rfl, h5, fun u hu => h4 u (List.mem_of_mem_drop (List.mem_of_mem_take hu))⟩
    · rw [hf us.toArray w (by simp; omega) rfl]
      simp [List.extract_eq_take_drop]

/-! texts -/
theorem av_index_str {s : Str} {c : UInt8} (hU : Und P T .string) (hx : aev st.l x = some (.str s)) (hy : aev st.l y = some (.int k a)) (he : ix s a = some c) (hN : Nat.blt d N.n = true := by rfl) : AOpV P N X ⟨some d, .index T x y, U, pos, aft, g⟩ (.int .u8 (c.toNat : Int)) st :=
  av_of rfl fun Q fr w m ρ φ hc => ⟨_, rep_int, fun K hk => op_index (hc.str hx) (hc.int hy) (fun w => by
    obtain ⟨h1, h2, h3⟩ := ix_some he
    have h4 : (bstr s)[a.toNat]? = some c := by
      have hsz : a.toNat < (bstr s).size := by rw [bstr_size]; exact h2
      rw [getElem?_pos (bstr s) a.toNat hsz]
      have := (List.getElem?_eq_some_iff.1 h3).2
      rw [← this]; rfl
    simp [Instr.index, run_underlying hU, asIntOf, h1, h4]) hN hk⟩
theorem bstr_ext (s : Str) (l h : Nat) : (bstr s).extract l h = bstr ((s.take h).drop l) := by
  have : ((bstr s).extract l h).data = (bstr ((s.take h).drop l)).data := by
    simp [bstr, ByteArray.data_extract, List.extract_eq_take_drop, List.drop_take]
  cases hh : (bstr s).extract l h; rw [hh] at this; simp only at this; subst this; rfl
/-- The bounds of a slice expression. -/
def slOk (lo hi : Int) (n : Nat) : Bool := decide (0 ≤ lo) && decide (lo ≤ hi) && decide (hi ≤ n)
def osI (st : AS) (o : Option Operand) (dflt : Int) (z : Int) : Prop := match o with
  | none => z = dflt
  | some x => ∃ k, aev st.l x = some (.int k z)
theorem run_bounds {isS : Bool} {len cap : Nat} {lo hi : Option Value} {l h : Int} (hl : match lo with | none => l = 0 | some v => ∃ k, v = .int k l) (hh : match hi with | none => h = len | some v => ∃ k, v = .int k h) (h0 : 0 ≤ l) (h1 : l ≤ h) (h2 : h ≤ cap) (w : World) :
    (Instr.sliceBounds isS len cap lo hi none).run P w = .ok (l.toNat, h.toNat, cap) w := by
  cases lo with
  | none =>
    simp only at hl; subst hl
    cases hi with
    | none => simp only at hh; subst hh; simp [Instr.sliceBounds]
    | some v => obtain ⟨k, rfl⟩ := hh; simp [Instr.sliceBounds, Instr.sliceBound, asIntOf, h2, show (0 : Int) ≤ h by omega]
  | some u =>
    obtain ⟨k', rfl⟩ := hl
    cases hi with
    | none => simp only at hh; subst hh; simp [Instr.sliceBounds, Instr.sliceBound, asIntOf, h0, h1]
    | some v =>
      obtain ⟨k, rfl⟩ := hh
      have h3 : (0 : Int) ≤ h := by omega
      have h4 : l ≤ ((h.toNat : Nat) : Int) := by omega
      simp [Instr.sliceBounds, Instr.sliceBound, asIntOf, h2, h3, h0, h4]
      intro h5; omega
theorem osI_val {fr : Fr} {w : World} {m : Mem} {ρ : List Value} {φ : List Frag} (hc : Conc X st fr w m ρ φ) {o : Option Operand} {df z : Int} (h : osI st o df z) {s : Act} (hs : Holds N fr s) : match o.map s.eval with | none => z = df | some v => ∃ k, v = .int k z := by
  cases o with
  | none => exact h
  | some x => obtain ⟨k, hk⟩ := h; exact ⟨k, hs.eval (hc.int hk)⟩
theorem av_slice_str {s : Str} {lo hi : Option Operand} {l h : Int} (hU : Und P T .string) (hx : aev st.l x = some (.str s)) (hl : osI st lo 0 l) (hh : osI st hi (s.length : Int) h) (hb : slOk l h s.length = true) (hN : Nat.blt d N.n = true := by rfl) : AOpV P N X ⟨some d, .slice T x lo hi none, U, pos, aft, g⟩ (.str ((s.take h.toNat).drop l.toNat)) st :=
  av_of rfl fun Q fr w m ρ φ hc => ⟨_, rep_str, fun K hk => op_val rfl hN (fun ac ha => by
    simp only [slOk, Bool.and_eq_true, decide_eq_true_eq] at hb
    have e1 := osI_val hc hl ha
    have e2 := osI_val hc hh ha
    have hr := run_bounds (P := P) (isS := false) (len := (bstr s).size) (cap := (bstr s).size) (lo := lo.map ac.eval) (hi := hi.map ac.eval) e1 (by rw [bstr_size]; exact e2) hb.1.1 hb.1.2 (by rw [bstr_size]; exact hb.2) w
    simp [execOp, Instr.sliceAt, Instr.slice, ha.eval (hc.str hx), run_underlying hU, hr, bstr_ext]) hk⟩

theorem RowsC.sub {m : Mem} {t : Ty} {x : List t.den} {b o : Nat} (h : ∀ (i : Nat) (y : t.den), x[i]? = some y → ∃ us, RC m t y us ∧ CellsM m b (o + i * t.cells) us) (l r : Nat) : ∀ (i : Nat) (y : t.den), ((x.take r).drop l)[i]? = some y → ∃ us, RC m t y us ∧ CellsM m b (o + l * t.cells + i * t.cells) us := by
  intro i y hy
  rw [List.getElem?_drop, List.getElem?_take] at hy
  split at hy
  · obtain ⟨us, h1, h2⟩ := h _ y hy
    exact ⟨us, h1, by rw [Nat.add_mul, ← Nat.add_assoc] at h2; exact h2⟩
  · cases hy
/-- A part of a slice that is read. -/
theorem av_slice_sl {t : Ty} {xs : List t.den} {E : Nat} {lo hi : Option Operand} {l h : Int} (hU : Und P T (.slice E)) (hS : Sz P E t.cells) (hx : aev st.l x = some (.sl t xs)) (hl : osI st lo 0 l) (hh : osI st hi (xs.length : Int) h) (hb : slOk l h xs.length = true) (hN : Nat.blt d N.n = true := by rfl) : AOpV P N X ⟨some d, .slice T x lo hi none, U, pos, aft, g⟩ (.sl t ((xs.take h.toNat).drop l.toNat)) st :=
  av_of rfl fun Q fr w m ρ φ hc => by
    simp only [slOk, Bool.and_eq_true, decide_eq_true_eq] at hb
    obtain ⟨⟨h0, h1⟩, h2⟩ := hb
    obtain ⟨v, g1, g2⟩ := hc.ev hx
    simp only [RepA, RC] at g2
    obtain ⟨A, n, c, g3, g4, g5, g6, b, o, g7, g8⟩ := g2
    cases g3
    subst g4
    refine ⟨.slice (if c = l.toNat then A else A.map (·.add (l.toNat * t.cells))) (h.toNat - l.toNat) (c - l.toNat), ?_, fun K hk => op_val rfl hN (fun ac ha => ?_) hk⟩
    · simp only [RepA, RC]
      refine ⟨_, _, _, rfl, by simp; omega, by omega, by omega, b, o + l.toNat * t.cells, fun hp => ?_, RowsC.sub g8 _ _⟩
      rw [if_neg (by omega), g7 (by omega)]
      simp [add_lit]
    · have e1 := osI_val hc hl ha
      have e2 := osI_val hc hh ha
      have hr := run_bounds (P := P) (isS := true) (len := xs.length) (cap := c) (lo := lo.map ac.eval) (hi := hi.map ac.eval) e1 e2 h0 h1 (by omega) w
      simp [execOp, Instr.sliceAt, Instr.slice, ha.eval g1, run_underlying hU, hr, hS w]
/-- The head of a slice of the call's own. -/
theorem aop_slice_osl {i E E' : Nat} {t : Ty} {xs : List t.den} {hi : Option Operand} {h : Int} {K : AS → Prop} (hU : Und P T (.slice E)) (hS : Sz P E t.cells) (hx : aev st.l x = some (.osl i)) (hH : st.H.get i = .sl E' t xs) (hh : osI st hi (xs.length : Int) h) (hb : slOk 0 h xs.length = true) {lo : Option Operand} (hlo : osI st lo 0 0)
    (k : K (st.app d i (.sl E' t (xs.take h.toNat)))) (hN : Nat.blt d N.n = true := by rfl) : AOp P N X ⟨some d, .slice T x lo hi none, U, pos, aft, g⟩ K st :=
  aop_of fun Q fr w m ρ φ hc K' hK => by
    simp only [slOk, Bool.and_eq_true, decide_eq_true_eq] at hb
    obtain ⟨⟨_, h1⟩, h2⟩ := hb
    obtain ⟨v, g1, g2⟩ := hc.ev hx
    simp only [RepA] at g2
    obtain ⟨f, hf, ho, hw⟩ := hc.obj g2.1
    rw [hH] at ho
    have hfr := hc.front hf
    have hlen : (xs.take h.toNat).length = h.toNat := by rw [List.length_take]; omega
    obtain ⟨q0, ⟨rfl, rfl, rfl⟩ | ⟨b, c, cs, vs, rfl, rfl, q1, q2, q3, q4, q5⟩⟩ := ho
    · have hz : h = 0 := by simp at h2; omega
      subst hz
      refine op_val (v := .slice none 0 0) rfl hN (fun ac ha => ?_) (hK _ _ _ _ _ _ (hc.swap (h := .slice none 0 0) (d := d) (av := .osl st.n) (v := .slice none 0 0) (f' := []) g2.1 hf (Mem.le_refl _) hfr ?_ ?_) k)
      · have e1 := osI_val hc hlo ha
        have e2 := osI_val hc hh ha
        have hr := run_bounds (P := P) (isS := true) (len := 0) (cap := 0) (lo := lo.map ac.eval) (hi := hi.map ac.eval) e1 (by simpa using e2) (Int.le_refl _) (Int.le_refl _) (by simp) w
        simp [execOp, Instr.sliceAt, Instr.slice, ha.eval g1, run_underlying hU, hr, hS w]
      · exact ⟨by simp, .inl ⟨by simp, rfl, rfl⟩⟩
      · simp only [RepA]; exact ⟨by rw [← hc.nρ]; simp, rfl⟩
    · refine op_val (v := .slice (some ⟨b, 0, none⟩) h.toNat c) rfl hN (fun ac ha => ?_) (hK _ _ _ _ _ _ (hc.swap (h := .slice (some ⟨b, 0, none⟩) h.toNat c) (d := d) (av := .osl st.n) (v := .slice (some ⟨b, 0, none⟩) h.toNat c) (f' := [(b, .cells cs E' (0, 0))]) g2.1 hf (Mem.le_refl _) hfr ?_ ?_) k)
      · have e1 := osI_val hc hlo ha
        have e2 := osI_val hc hh ha
        have hr := run_bounds (P := P) (isS := true) (len := xs.length) (cap := c) (lo := lo.map ac.eval) (hi := hi.map ac.eval) e1 e2 (Int.le_refl _) h1 (by omega) w
        simp [execOp, Instr.sliceAt, Instr.slice, ha.eval g1, run_underlying hU, hr, hS w, Addr.add]
      · have q4l := q4.len
        obtain ⟨us, r1, r2, r3⟩ := q4
        have hall : ∀ u ∈ us, u.length = t.cells := by
          intro u hu
          obtain ⟨i, hi, rfl⟩ := List.getElem_of_mem hu
          exact RC.len (r3 i (xs[i]'(by omega)) _ (List.getElem?_eq_getElem (by omega)) (List.getElem?_eq_getElem hi))
        refine ⟨by rw [hlen]; omega, .inr ⟨b, c, cs, (us.take h.toNat).flatten, by rw [hlen], rfl, by rw [hlen]; omega, q2, q3, ⟨us.take h.toNat, by rw [hlen, List.length_take]; omega, rfl, fun i y u hy hu => ?_⟩, ?_⟩⟩
        · rw [List.getElem?_take] at hy hu
          split at hy
          · rename_i hi; rw [if_pos hi] at hu; exact r3 i y u hy hu
          · cases hy
        · rw [hlen]
          have h3 : us.flatten = (us.take h.toNat).flatten ++ (us.drop h.toNat).flatten := by rw [← List.flatten_append, List.take_append_drop]
          have h4 : (us.take h.toNat).flatten.length = h.toNat * t.cells := by
            rw [flatten_len (k := t.cells) (rfl : (us.take h.toNat).length = _)]
            · rw [List.length_take]; congr 1; omega
            · intro u hu; exact hall u (List.mem_of_mem_take hu)
          rw [r2, h3] at q5
          have h5 := congrArg (List.take (h.toNat * t.cells)) q5
          rw [List.take_take, List.take_left' h4] at h5
          rw [← h5]
          congr 1
          have := Nat.mul_le_mul_right t.cells (show h.toNat ≤ xs.length by omega)
          omega
      · simp only [RepA]; exact ⟨by rw [← hc.nρ]; simp, rfl⟩

/-! conversions -/
theorem av_conv {src dst : TypeId} {ka kd : IntKind} {ds : TypeDesc} (hU : Und P dst (.int kd)) (hS : Und P src ds) (hx : aev st.l x = some (.int ka a)) (hN : Nat.blt d N.n = true := by rfl) : AOpV P N X ⟨some d, .convert src dst x, U, pos, aft, g⟩ (.int kd (kd.wrap a)) st :=
  av_of rfl fun Q fr w m ρ φ hc => ⟨_, rep_int, fun K hk => op_conv_int (hc.int hx) hU rfl ⟨ds, hS⟩ hN hk⟩
theorem av_conv_str {src dst : TypeId} {s : Str} (hS : Und P src .string) (hU : Und P dst .string) (hx : aev st.l x = some (.str s)) (hN : Nat.blt d N.n = true := by rfl) : AOpV P N X ⟨some d, .convert src dst x, U, pos, aft, g⟩ (.str s) st :=
  av_of rfl fun Q fr w m ρ φ hc => ⟨_, rep_str, fun K hk => op_convert (hc.str hx) (fun w => by simp [convert, run_underlying hS, run_underlying hU]) hN hk⟩
end
end Go.Ab
