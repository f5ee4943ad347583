/- Lemmas for a law of the seat: what functions of the program do, each stated as a contract of its own (AbW). -/
import Derived.Test.YtigjjobjdajkfabGreatDoorAb2
import Derived.Shelf.SlSortCmp.WholeK
set_option linter.unusedVariables false
set_option linter.unusedSimpArgs false
namespace Go.Ab
open Go.RowKit Go.Shelf Go.Proofs Go.Eng

/-! slices.SortFunc at structs, of what is handed in -/
/-- Elements of some cells, told by the datum. -/
structure EncK (t : Ty) (enc : t.den → List Value) : Prop where
  len : ∀ x, (enc x).length = t.cells
  rc : ∀ m x, RC m t x (enc x)
  uniq : ∀ m x vs, RC m t x vs → vs = enc x
theorem rows_encK {m : Mem} {t : Ty} {enc : t.den → List Value} (hE : EncK t enc) {xs : List t.den} {vs : List Value} (h : RowsC m t xs vs) : vs = (xs.map enc).flatten := by
  obtain ⟨us, h1, rfl, h3⟩ := h
  congr 1
  apply List.ext_getElem?
  intro i
  rw [List.getElem?_map]
  rcases Nat.lt_or_ge i xs.length with hi | hi
  · rw [List.getElem?_eq_getElem hi, List.getElem?_eq_getElem (by omega), Option.map_some, hE.uniq m _ _ (h3 i _ _ (List.getElem?_eq_getElem hi) (List.getElem?_eq_getElem (by omega)))]
  · rw [List.getElem?_eq_none hi, List.getElem?_eq_none (by omega)]; rfl
theorem encK_rows {m : Mem} {t : Ty} {enc : t.den → List Value} (hE : EncK t enc) (xs : List t.den) : RowsC m t xs (xs.map enc).flatten :=
  ⟨xs.map enc, by simp, rfl, fun i y u hy hu => by
    rw [List.getElem?_map, hy] at hu
    cases hu
    exact hE.rc m y⟩
theorem flatK_list {α : Type} [Inhabited α] {enc : α → List Value} {k : Nat} (hk : ∀ x, (enc x).length = k) (d : List α) : (Go.Sort.flatK enc k d.toArray).toList = (d.map enc).flatten := by
  have hl : (d.map enc).flatten.length = d.length * k := by
    rw [flatten_len (k := k) (by simp : (d.map enc).length = d.length)]
    intro u hu
    obtain ⟨x, _, rfl⟩ := List.mem_map.1 hu
    exact hk x
  apply List.ext_getElem?
  intro j
  rcases Nat.lt_or_ge j (d.length * k) with hj | hj
  · obtain ⟨v, hv⟩ : ∃ v, (d.map enc).flatten[j]? = some v := ⟨_, List.getElem?_eq_getElem (by rw [hl]; exact hj)⟩
    obtain ⟨z, r, u, e, h2, h3⟩ := flatten_at (c := k) (fun u hu => by
      obtain ⟨x, _, rfl⟩ := List.mem_map.1 hu
      exact hk x) hv
    rw [List.getElem?_map] at h2
    cases hz : d[z]? with
    | none => rw [hz] at h2; cases h2
    | some x =>
      rw [hz] at h2
      cases h2
      have hzl := (List.getElem?_eq_some_iff.1 hz).1
      have hr : r < k := by have := (List.getElem?_eq_some_iff.1 h3).1; rw [hk] at this; exact this
      have hd : j / k = z := by rw [e, Nat.mul_comm, Nat.mul_add_div (by omega), Nat.div_eq_of_lt hr]; omega
      have hm : j % k = r := by rw [e, Nat.mul_comm, Nat.mul_add_mod, Nat.mod_eq_of_lt hr]
      rw [hv]
      simp only [Go.Sort.flatK, Array.toList_map, List.getElem?_map, Array.toList_range, List.size_toArray]
      rw [List.getElem?_range hj, Option.map_some, hd, hm]
      congr 1
      have h4 : d.toArray[z]! = x := by
        rw [getElem!_pos d.toArray z (by simpa using hzl)]
        have := (List.getElem?_eq_some_iff.1 hz).2
        simpa using this
      rw [h4, getElem!_pos (enc x) r (by rw [hk]; exact hr)]
      exact (List.getElem?_eq_some_iff.1 h3).2
  · rw [List.getElem?_eq_none (by simp only [Go.Sort.flatK, Array.toList_map, List.length_map, Array.toList_range, List.length_range, List.size_toArray]; exact hj), List.getElem?_eq_none (by rw [hl]; exact hj)]

/-- A row of the call's own, its cells written anew. -/
theorem row_putV {e w : World} {m : Mem} {F : Frag} {b E : Nat} {cs : Array Value} {vs ys : List Value} (hs : SH e w m ((b, .cells cs E (0, 0)) :: F)) (hv : cs.toList.take vs.length = vs) (hle : vs.length ≤ cs.size) (hl : ys.length = vs.length) :
    Sort.Holds id w b 0 vs.toArray ∧ b < w.heap.size ∧ ∀ n os, ∃ cs', cs'.size = cs.size ∧ cs'.toList.take vs.length = ys ∧ SH e (Sort.grow (Sort.putRow id (Sort.ahead w n) b 0 ys.toArray) os) m ((b, .cells cs' E (0, 0)) :: F) ∧ DK none w (Sort.grow (Sort.putRow id (Sort.ahead w n) b 0 ys.toArray) os) := by
  have hb := hs.own (b, .cells cs E (0, 0)) (by simp)
  simp only at hb
  have hbl := (Array.getElem?_eq_some_iff.1 hb).1
  refine ⟨fun j hj => ?_, hbl, fun n os => ?_⟩
  · have hj' : j < vs.length := by simpa using hj
    refine ⟨?_, ?_⟩
    · simp only [World.cell?, hb, Nat.zero_add]
      have h2 := congrArg (fun l => l[j]?) hv
      simp only [List.getElem?_take, hj', if_true, List.getElem?_eq_getElem hj'] at h2
      rw [getElem!_pos _ j hj]
      simpa using h2
    · simp [World.frozen?, hb]
  · obtain ⟨w1, hw1⟩ : ∃ w1, w1 = Sort.putRow id (Sort.ahead w n) b 0 ys.toArray := ⟨_, rfl⟩
    have hget : ∀ k, w1.heap[k]? = if b = k then (w.heap[k]?).map (Sort.onCells (Sort.putCells id 0 ys.toArray)) else w.heap[k]? := by
      intro k
      rw [hw1]
      simp only [Sort.putRow, Sort.mapBlock, Sort.ahead, Array.getElem?_modify]
    have hP : Put w w1 b := by
      refine ⟨by rw [hw1]; rfl, by rw [hw1]; rfl, by rw [hw1]; rfl, by rw [hw1]; simp [Sort.putRow, Sort.mapBlock, Sort.ahead], fun k hk => ?_⟩
      rw [hget, if_neg (fun e => hk e.symm)]
    have hb1 : w1.heap[b]? = some (.cells (Sort.putCells id 0 ys.toArray cs) E (0, 0)) := by
      rw [hget, if_pos rfl, hb]; rfl
    have hs1 := hs.put hP hb1 rfl
    have hBl : Below w1.heap.size w1 (Sort.grow w1 os) := ⟨rfl, rfl, rfl, by simp, fun k hk => Sort.heap_grow_old w1 os hk⟩
    rw [← hw1]
    have hsz : (Sort.putCells id 0 ys.toArray cs).size = cs.size := by simp [Sort.putCells]
    refine ⟨_, hsz, ?_, hs1.ext hBl, ?_⟩
    · apply List.ext_getElem?
      intro j
      rw [List.getElem?_take]
      rcases Nat.lt_or_ge j vs.length with hj | hj
      · have hjc : j < cs.size := by omega
        have hjy : j < ys.length := by omega
        have hyj : ys[j]? = some (ys[j]'hjy) := List.getElem?_eq_getElem hjy
        rw [if_pos hj, hyj]
        have h9 : (Sort.putCells id 0 ys.toArray cs)[j]? = some (ys[j]'hjy) := by
          simp only [Sort.putCells, Array.getElem?_mapIdx, Array.getElem?_eq_getElem hjc, Option.map_some, Nat.zero_le, true_and, Nat.zero_add, Nat.sub_zero, List.size_toArray, hjy, if_true, id]
          rw [getElem!_pos _ j (by simpa using hjy)]
          simp
        simpa using h9
      · rw [if_neg (by omega), List.getElem?_eq_none (by omega)]
    · intro k o hk hcx _
      have hkl := (Array.getElem?_eq_some_iff.1 hk).1
      rw [Sort.heap_grow_old w1 os (by rw [hP.size]; exact hkl), hget]
      split
      · rename_i e'; subst e'; rw [hb] at hk; cases hk; cases hcx
      · exact hk

theorem RepL.osl0fn {m : Mem} {h : Value} {g : FuncId} {vs : List Value} (H : RepL m [h] [.osl 0, .fn g [] []] vs) : vs = [h, .func (.func g) #[] #[]] := by
  match vs, H with
  | [v, u], H =>
    simp only [RepL, RepA, and_true] at H
    obtain ⟨⟨h1, _⟩, us, ws, rfl, h3, h4⟩ := H
    simp at h1
    subst h1
    cases us with
    | nil => cases ws with
      | nil => rfl
      | cons => simp [RepL] at h4
    | cons => simp [RepL] at h3
/-- slices.SortFunc: the row holds the same elements, put in order. -/
theorem runs_sortF {P : Program} {f : FuncId} {t : Ty} {α : Type} [Inhabited α] {val : α → t.den} {enc : t.den → List Value} (hE : EncK t enc) {E g : Nat} {xs ys : List α} (hl : ys.length = xs.length)
    (hS : ∀ (b cap : Nat) (w : World), Go.Sort.HoldsK (fun a => enc (val a)) t.cells w b 0 xs.toArray → b < w.heap.size → Calls P f #[.slice (some ⟨b, 0, none⟩) xs.toArray.size cap, .func (.func g) #[] #[]] w fun e w' => e = .returned (.tuple #[]) ∧ ∃ d' n os, d' = ys.toArray ∧ w' = sortWorldK (fun a => enc (val a)) t.cells w b 0 n d' os)
    (h0 : ∀ w, Calls P f #[.slice none 0 0, .func (.func g) #[] #[]] w fun e w' => e = .returned (.tuple #[]) ∧ w' = w) : Runs P f [.osl 0, .fn g [] []] [.sl E t (xs.map val)] fun q Hq => q = [] ∧ Hq = [.sl E t (ys.map val)] := by
  intro e w m ρ φ F vs hv ho hs
  obtain ⟨h, fr, rfl, rfl, ho1⟩ := ho.one
  have := hv.osl0fn
  subst this
  obtain ⟨q0, ho2 | ho2⟩ := ho1
  · obtain ⟨hx, rfl, rfl⟩ := ho2
    have hx' : xs = [] := by simpa using hx
    subst hx'
    have : ys = [] := List.eq_nil_of_length_eq_zero hl
    subst this
    refine Calls.mono (h0 w) ?_
    rintro e' w' ⟨rfl, rfl⟩
    exact ⟨_, rfl, ⟨DK.refl, Nat.le_refl _⟩, _, _, m, _, _, ⟨rfl, rfl⟩, Mem.le_refl _, fun i h hi => hi, Nat.le_refl _, ⟨rfl, rfl, fun i o h f hi hh hf => by
      cases i with
      | zero => simp at hi hh hf; subst hi hh hf; exact ⟨by simp, .inl ⟨rfl, rfl, rfl⟩⟩
      | succ i => simp at hi⟩, hs, [], by simp [RepL], rfl⟩
  · obtain ⟨b, c, cs, us, rfl, rfl, q1, q2, q3, q4, q5⟩ := ho2
    simp only [List.length_map] at q0 q1 q5
    have hs' : SH e w m ((b, .cells cs E (0, 0)) :: F) := by simpa using hs
    have hus := rows_encK hE q4
    have hflat : ∀ zs : List α, (Go.Sort.flatK (fun a => enc (val a)) t.cells zs.toArray).toList = ((zs.map val).map enc).flatten := fun zs => by
      rw [flatK_list (fun x => hE.len (val x)), List.map_map]; rfl
    have hlen : ∀ zs : List α, (((zs.map val).map enc).flatten).length = zs.length * t.cells := fun zs => by
      rw [flatten_len (k := t.cells) (by simp : ((zs.map val).map enc).length = zs.length)]
      intro u hu
      obtain ⟨x, _, rfl⟩ := List.mem_map.1 hu
      exact hE.len x
    have hul : us.length = xs.length * t.cells := by rw [hus, hlen]
    obtain ⟨g1, g2, g3⟩ := row_putV (vs := us) (ys := ((ys.map val).map enc).flatten) hs' (by rw [hul]; exact q5) (by rw [hul, q3]; exact Nat.mul_le_mul_right _ q1) (by rw [hul, hlen, hl])
    have hH : Go.Sort.HoldsK (fun a => enc (val a)) t.cells w b 0 xs.toArray := by
      unfold Go.Sort.HoldsK
      have : Go.Sort.flatK (fun a => enc (val a)) t.cells xs.toArray = us.toArray := by
        rw [hus, ← hflat xs]
      rw [this]; exact g1
    have hcall := hS b c w hH g2
    simp only [List.size_toArray] at hcall
    simp only [List.length_map]
    refine Calls.mono hcall ?_
    rintro e' w' ⟨rfl, d', n, os, rfl, rfl⟩
    have hw : sortWorldK (fun a => enc (val a)) t.cells w b 0 n ys.toArray os = Sort.grow (Sort.putRow id (Sort.ahead w n) b 0 (((ys.map val).map enc).flatten).toArray) os := by
      unfold sortWorldK Go.Sort.putRowK
      rw [← hflat ys]
    rw [hw]
    obtain ⟨cs', k1, k2, k4, k5⟩ := g3 n os
    have hsz : w.heap.size ≤ (Sort.grow (Sort.putRow id (Sort.ahead w n) b 0 (((ys.map val).map enc).flatten).toArray) os).heap.size := by simp [Sort.putRow, Sort.mapBlock, Sort.ahead]
    refine ⟨_, rfl, ⟨k5, hsz⟩, _, _, m, [.slice (some ⟨b, 0, none⟩) xs.length c], [[(b, .cells cs' E (0, 0))]], ⟨rfl, rfl⟩, Mem.le_refl _, fun i h hi => hi, Nat.le_refl _, ⟨rfl, rfl, fun i o h f hi hh hf => ?_⟩, by simpa using k4, [], by simp [RepL], rfl⟩
    cases i with
    | zero =>
      simp at hi hh hf; subst hi hh hf
      refine ⟨by rw [List.length_map]; omega, .inr ⟨b, c, cs', _, by rw [List.length_map, hl], rfl, by rw [List.length_map]; omega, q2, by rw [k1]; exact q3, ?_, rfl⟩⟩
      rw [List.length_map, hl, ← hul, k2]
      exact encK_rows hE _
    | succ i => simp at hi
end Go.Ab

