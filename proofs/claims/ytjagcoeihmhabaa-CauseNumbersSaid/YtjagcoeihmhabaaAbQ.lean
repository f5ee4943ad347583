/- Lemmas for a law of the seat: what functions of the program do, each stated as a contract of its own (module AbQ). -/
import Derived.Test.YtjagcoeihmhabaaAbP
import Derived.Sort.Grow
import Derived.Sort.Row
set_option linter.unusedVariables false
set_option linter.unusedSimpArgs false
namespace Go.Ab
open Go.RowKit Go.Shelf Go.Proofs Go.Eng

/-! the kit's contracts of rows, of what is handed in -/
/-- Elements of one cell. -/
structure Enc1 (t : Ty) (enc : t.den → Value) : Prop where
  one : t.cells = 1
  rc : ∀ m x, RC m t x [enc x]
  uniq : ∀ m x vs, RC m t x vs → vs = [enc x]

theorem enc_int (k : IntKind) : Enc1 (.int k) (fun (x : Int) => Value.int k x) := ⟨rfl, fun m x => rfl, fun m x vs h => h⟩
theorem enc_str : Enc1 .str (fun (x : Str) => Value.string (bstr x)) := ⟨rfl, fun m x => rfl, fun m x vs h => h⟩

theorem rows_enc {m : Mem} {t : Ty} {enc : t.den → Value} (hE : Enc1 t enc) {xs : List t.den} {vs : List Value} (h : RowsC m t xs vs) : vs = xs.map enc := by
  obtain ⟨us, h1, rfl, h3⟩ := h
  have : us = xs.map fun x => [enc x] := by
    apply List.ext_getElem?
    intro i
    rw [List.getElem?_map]
    rcases Nat.lt_or_ge i xs.length with hi | hi
    · rw [List.getElem?_eq_getElem hi, List.getElem?_eq_getElem (by omega), Option.map_some, hE.uniq m _ _ (h3 i _ _ (List.getElem?_eq_getElem hi) (List.getElem?_eq_getElem (by omega)))]
    · rw [List.getElem?_eq_none hi, List.getElem?_eq_none (by omega)]; rfl
  rw [this]
  clear this h1 h3
  induction xs with
  | nil => rfl
  | cons x xs ih => simp [ih]
theorem enc_rows {m : Mem} {t : Ty} {enc : t.den → Value} (hE : Enc1 t enc) (xs : List t.den) : RowsC m t xs (xs.map enc) := by
  refine ⟨xs.map fun x => [enc x], by simp, ?_, fun i y u hy hu => ?_⟩
  · induction xs with
    | nil => rfl
    | cons x xs ih => simp [ih]
  · rw [List.getElem?_map, hy] at hu
    cases hu
    exact hE.rc m y

/-- A row of the call's own, its elements written anew. -/
theorem row_put {t : Ty} {enc : t.den → Value} [Inhabited t.den] (hE : Enc1 t enc) {e w : World} {m : Mem} {F : Frag} {b c E : Nat} {cs : Array Value} {xs ys : List t.den} (hs : SH e w m ((b, .cells cs E (0, 0)) :: F)) (hc : xs.length ≤ c) (hz : cs.size = c * t.cells) (hr : RowsC m t xs (cs.toList.take (xs.length * t.cells))) (hl : ys.length = xs.length) :
    Sort.Holds enc w b 0 xs.toArray ∧ b < w.heap.size ∧ ∀ n os, ∃ cs', cs'.size = cs.size ∧ RowsC m t ys (cs'.toList.take (xs.length * t.cells)) ∧ (∀ j, xs.length ≤ j → cs'[j]? = cs[j]?) ∧ SH e (Sort.grow (Sort.putRow enc (Sort.ahead w n) b 0 ys.toArray) os) m ((b, .cells cs' E (0, 0)) :: F) ∧ DK none w (Sort.grow (Sort.putRow enc (Sort.ahead w n) b 0 ys.toArray) os) := by
  have h1 := hE.one
  rw [h1, Nat.mul_one] at hz hr ⊢
  have hb := hs.own (b, .cells cs E (0, 0)) (by simp)
  simp only at hb
  have hbl := (Array.getElem?_eq_some_iff.1 hb).1
  have hv := rows_enc hE hr
  refine ⟨fun j hj => ?_, hbl, fun n os => ?_⟩
  · have hj' : j < xs.length := by simpa using hj
    refine ⟨?_, ?_⟩
    · simp only [World.cell?, hb, Nat.zero_add]
      have h2 := congrArg (fun l => l[j]?) hv
      simp only [List.getElem?_take, hj', if_true, List.getElem?_map, List.getElem?_eq_getElem hj', Option.map_some] at h2
      rw [getElem!_pos _ j hj]
      simpa using h2
    · simp [World.frozen?, hb]
  · obtain ⟨w1, hw1⟩ : ∃ w1, w1 = Sort.putRow enc (Sort.ahead w n) b 0 ys.toArray := ⟨_, rfl⟩
    have hget : ∀ k, w1.heap[k]? = if b = k then (w.heap[k]?).map (Sort.onCells (Sort.putCells enc 0 ys.toArray)) else w.heap[k]? := by
      intro k
      rw [hw1]
      simp only [Sort.putRow, Sort.mapBlock, Sort.ahead, Array.getElem?_modify]
    have hP : Put w w1 b := by
      refine ⟨by rw [hw1]; rfl, by rw [hw1]; rfl, by rw [hw1]; rfl, by rw [hw1]; simp [Sort.putRow, Sort.mapBlock, Sort.ahead], fun k hk => ?_⟩
      rw [hget, if_neg (fun e => hk e.symm)]
    have hb1 : w1.heap[b]? = some (.cells (Sort.putCells enc 0 ys.toArray cs) E (0, 0)) := by
      rw [hget, if_pos rfl, hb]; rfl
    have hs1 := hs.put hP hb1 rfl
    have hBl : Below w1.heap.size w1 (Sort.grow w1 os) := ⟨rfl, rfl, rfl, by simp, fun k hk => Sort.heap_grow_old w1 os hk⟩
    rw [← hw1]
    have hsz : (Sort.putCells enc 0 ys.toArray cs).size = cs.size := by simp [Sort.putCells]
    refine ⟨_, hsz, ?_, fun j hj => ?_, hs1.ext hBl, ?_⟩
    · have : (Sort.putCells enc 0 ys.toArray cs).toList.take xs.length = ys.map enc := by
        apply List.ext_getElem?
        intro j
        rw [List.getElem?_take]
        rcases Nat.lt_or_ge j xs.length with hj | hj
        · have hjc : j < cs.size := by omega
          have hjy : j < ys.length := by omega
          have hyj : ys[j]? = some (ys[j]'hjy) := List.getElem?_eq_getElem hjy
          rw [if_pos hj, List.getElem?_map, hyj, Option.map_some]
          have h9 : (Sort.putCells enc 0 ys.toArray cs)[j]? = some (enc (ys[j]'hjy)) := by
            simp only [Sort.putCells, Array.getElem?_mapIdx, Array.getElem?_eq_getElem hjc, Option.map_some, Nat.zero_le, true_and, Nat.zero_add, Nat.sub_zero, List.size_toArray, hjy, if_true]
            rw [getElem!_pos _ j (by simpa using hjy)]
            simp
          simpa using h9
        · have hj2 : ys.length ≤ j := by omega
          rw [if_neg (by omega), List.getElem?_map, List.getElem?_eq_none hj2]; rfl
      rw [this]
      exact enc_rows hE ys
    · simp only [Sort.putCells, Array.getElem?_mapIdx, Nat.zero_le, true_and, Nat.zero_add, List.size_toArray, show ¬ j < ys.length by omega, if_false]
      cases cs[j]? <;> rfl
    · intro k o hk hcx _
      have hkl := (Array.getElem?_eq_some_iff.1 hk).1
      rw [Sort.heap_grow_old w1 os (by rw [hP.size]; exact hkl), hget]
      split
      · rename_i e'; subst e'; rw [hb] at hk; cases hk; cases hcx
      · exact hk

theorem RepL.osl0 {m : Mem} {h : Value} {vs : List Value} (H : RepL m [h] [.osl 0] vs) : vs = [h] := by
  cases vs with
  | nil => simp [RepL] at H
  | cons v vs => cases vs with
    | nil => simp [RepL, RepA] at H; rw [H.1]
    | cons => simp [RepL] at H
theorem OsRep.one {m : Mem} {ρ : List Value} {o : AO} {φ : List Frag} (H : OsRep m ρ [o] φ) : ∃ h f, ρ = [h] ∧ φ = [f] ∧ ORep m ρ o h f := by
  have h1 := H.nρ
  have h2 := H.nφ
  match ρ, φ, h1, h2 with
  | [h], [f], _, _ => exact ⟨h, f, rfl, rfl, H.at_ 0 o h f rfl rfl rfl⟩

/-- A call that writes a row in place. -/
theorem runs_row {P : Program} {f : FuncId} {t : Ty} {enc : t.den → Value} [Inhabited t.den] (hE : Enc1 t enc) {E : Nat} {xs ys : List t.den} (hl : ys.length = xs.length)
    (hS : ∀ (b cap : Nat) (w : World), Sort.Holds enc w b 0 xs.toArray → b < w.heap.size → xs.length ≤ cap → Calls P f #[.slice (some ⟨b, 0, none⟩) xs.length cap] w fun e w' => e = .returned (.tuple #[]) ∧ ∃ n os, w' = Sort.grow (Sort.putRow enc (Sort.ahead w n) b 0 ys.toArray) os)
    (h0 : ∀ w, Calls P f #[.slice none 0 0] w fun e w' => e = .returned (.tuple #[]) ∧ w' = w) : Runs P f [.osl 0] [.sl E t xs] fun q Hq => q = [] ∧ Hq = [.sl E t ys] := by
  intro e w m ρ φ F vs hv ho hs
  obtain ⟨h, fr, rfl, rfl, ho1⟩ := ho.one
  have := hv.osl0
  subst this
  obtain ⟨q0, ho2 | ho2⟩ := ho1
  · obtain ⟨rfl, rfl, rfl⟩ := ho2
    have : ys = [] := List.eq_nil_of_length_eq_zero hl
    subst this
    refine Calls.mono (h0 w) ?_
    rintro e' w' ⟨rfl, rfl⟩
    exact ⟨_, rfl, ⟨DK.refl, Nat.le_refl _⟩, _, _, m, _, _, ⟨rfl, rfl⟩, Mem.le_refl _, fun i h hi => hi, Nat.le_refl _, ⟨rfl, rfl, fun i o h f hi hh hf => by
      cases i with
      | zero => simp at hi hh hf; subst hi hh hf; exact ⟨by simp, .inl ⟨rfl, rfl, rfl⟩⟩
      | succ i => simp at hi⟩, hs, [], by simp [RepL], rfl⟩
  · obtain ⟨b, c, cs, us, rfl, rfl, q1, q2, q3, q4, q5⟩ := ho2
    have hs' : SH e w m ((b, .cells cs E (0, 0)) :: F) := by simpa using hs
    obtain ⟨g1, g2, g3⟩ := row_put hE hs' q1 q3 (by rw [q5]; exact q4) hl
    refine Calls.mono (hS b c w g1 g2 q1) ?_
    rintro e' w' ⟨rfl, n, os, rfl⟩
    obtain ⟨cs', k1, k2, k3, k4, k5⟩ := g3 n os
    have hsz : w.heap.size ≤ (Sort.grow (Sort.putRow enc (Sort.ahead w n) b 0 ys.toArray) os).heap.size := by simp [Sort.putRow, Sort.mapBlock, Sort.ahead]
    refine ⟨_, rfl, ⟨k5, hsz⟩, _, _, m, [.slice (some ⟨b, 0, none⟩) xs.length c], [[(b, .cells cs' E (0, 0))]], ⟨rfl, rfl⟩, Mem.le_refl _, fun i h hi => hi, Nat.le_refl _, ⟨rfl, rfl, fun i o h f hi hh hf => ?_⟩, by simpa using k4, [], by simp [RepL], rfl⟩
    cases i with
    | zero =>
      simp at hi hh hf; subst hi hh hf
      exact ⟨by omega, .inr ⟨b, c, cs', _, by rw [hl], rfl, by omega, q2, by rw [k1]; exact q3, by rw [← hl] at k2; exact k2, rfl⟩⟩
    | succ i => simp at hi

/-- A call that writes a row in place, and gives its beginning. -/
theorem runs_rowS {P : Program} {f : FuncId} {t : Ty} {enc : t.den → Value} [Inhabited t.den] (hE : Enc1 t enc) {E : Nat} {xs zs rest : List t.den} (hl : (zs ++ rest).length = xs.length)
    (hS : ∀ (b cap : Nat) (w : World), Sort.Holds enc w b 0 xs.toArray → b < w.heap.size → xs.length ≤ cap → Calls P f #[.slice (some ⟨b, 0, none⟩) xs.length cap] w fun e w' => e = .returned (.slice (some ⟨b, 0, none⟩) zs.length cap) ∧ ∃ n os, w' = Sort.grow (Sort.putRow enc (Sort.ahead w n) b 0 (zs ++ rest).toArray) os)
    (h0 : ∀ w, Calls P f #[.slice none 0 0] w fun e w' => e = .returned (.slice none 0 0) ∧ w' = w) : Runs P f [.osl 0] [.sl E t xs] fun q Hq => q = [.osl 1] ∧ Hq = [.dead, .sl E t zs] := by
  intro e w m ρ φ F vs hv ho hs
  obtain ⟨h, fr, rfl, rfl, ho1⟩ := ho.one
  have := hv.osl0
  subst this
  have hpre : ∀ (u v : Value) (i : Nat) (h : Value), [u][i]? = some h → [u, v][i]? = some h := by
    intro u v i h hi
    cases i with
    | zero => exact hi
    | succ i => simp at hi
  obtain ⟨q0, ho2 | ho2⟩ := ho1
  · obtain ⟨rfl, rfl, rfl⟩ := ho2
    have : zs = [] := by
      cases zs with
      | nil => rfl
      | cons => simp at hl
    subst this
    refine Calls.mono (h0 w) ?_
    rintro e' w' ⟨rfl, rfl⟩
    refine ⟨_, rfl, ⟨DK.refl, Nat.le_refl _⟩, [.osl 1], [.dead, .sl E t []], m, [.slice none 0 0, .slice none 0 0], [[], []], ⟨rfl, rfl⟩, Mem.le_refl _, hpre _ _, by simp, ⟨rfl, rfl, fun i o h f hi hh hf => ?_⟩, by simpa using hs, [.slice none 0 0], by simp [RepL, RepA, Value.oneCell'], rfl⟩
    match i with
    | 0 => simp at hi hh hf; subst hi hh hf; rfl
    | 1 => simp at hi hh hf; subst hi hh hf; exact ⟨by simp, .inl ⟨rfl, rfl, rfl⟩⟩
    | i + 2 => simp at hi
  · obtain ⟨b, c, cs, us, rfl, rfl, q1, q2, q3, q4, q5⟩ := ho2
    have hs' : SH e w m ((b, .cells cs E (0, 0)) :: F) := by simpa using hs
    obtain ⟨g1, g2, g3⟩ := row_put hE hs' q1 q3 (by rw [q5]; exact q4) hl
    refine Calls.mono (hS b c w g1 g2 q1) ?_
    rintro e' w' ⟨rfl, n, os, rfl⟩
    obtain ⟨cs', k1, k2, k3, k4, k5⟩ := g3 n os
    have hsz : w.heap.size ≤ (Sort.grow (Sort.putRow enc (Sort.ahead w n) b 0 (zs ++ rest).toArray) os).heap.size := by simp [Sort.putRow, Sort.mapBlock, Sort.ahead]
    have hzl : zs.length ≤ xs.length := by rw [← hl, List.length_append]; omega
    refine ⟨_, rfl, ⟨k5, hsz⟩, [.osl 1], [.dead, .sl E t zs], m, [.slice (some ⟨b, 0, none⟩) xs.length c, .slice (some ⟨b, 0, none⟩) zs.length c], [[], [(b, .cells cs' E (0, 0))]], ⟨rfl, rfl⟩, Mem.le_refl _, hpre _ _, by simp, ⟨rfl, rfl, fun i o h f hi hh hf => ?_⟩, by simpa using k4, [.slice (some ⟨b, 0, none⟩) zs.length c], by simp [RepL, RepA, Value.oneCell'], rfl⟩
    match i with
    | 0 => simp at hi hh hf; subst hi hh hf; rfl
    | 1 =>
      simp at hi hh hf; subst hi hh hf
      refine ⟨by omega, .inr ⟨b, c, cs', _, rfl, rfl, by omega, q2, by rw [k1]; exact q3, ?_, rfl⟩⟩
      have h1 := hE.one
      rw [h1, Nat.mul_one] at k2 ⊢
      have k6 := rows_enc hE k2
      have : cs'.toList.take zs.length = zs.map enc := by
        have := congrArg (fun l => l.take zs.length) k6
        simp only [List.take_take, Nat.min_eq_left hzl, List.map_append] at this
        rw [this, List.take_left' (by simp)]
      rw [this]
      exact enc_rows hE zs
    | i + 2 => simp at hi
end Go.Ab
