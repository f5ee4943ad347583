/- Lemmas for a law of the seat: what functions of the program do, each stated as a contract of its own (X4). -/
import Derived.Test.YtbjafckcpkhoaaaGreatDoorX2
import Derived.Test.YtbjafckcpkhoaaaGreatDoorX3
import Derived.Shelf.Strconv.ErrVarAll
import Derived.Lib.AppendIntMem
import Derived.Lib.SmallJoins
import Derived.Test.YtbjafckcpkhoaaaGreatDoorChecked
import Derived.Lib.AtoiTie
import Derived.Lib.ItoaLen
import Derived.Lib.AtoiAllCases
set_option linter.unusedVariables false
namespace Go.Ab
open Go.RowKit Go.Shelf Go.Proofs Go.Eng
/-- What the variables of the library hold that the statement leaves open. -/
structure PZ where
  m : Int
  t1 : TypeId
  v1 : Value
  t2 : TypeId
  v2 : Value
def tabsZ (z : PZ) : Tabs := [(0, #[.int .i64 z.m]), (1, #[.iface z.t1 z.v1]), (2, #[.iface z.t2 z.v2]), (3, (Lib.pow10Tab.map fun z => Value.int .u64 z).toArray)]
theorem fItoa_runs {z : PZ} {n : Int} {r : Str} (hr : fItoa n = some r) : RunsT (TabM (tabsZ z)) Tryz.prog 16 [.int .i64 n] [] (fun q H' => q = [.str r] ∧ H' = []) := by
  unfold fItoa at hr
  obtain ⟨h, hr⟩ := chk_some hr
  have hr := Option.some.inj hr
  subst hr
  simp only [Bool.and_eq_true, decide_eq_true_eq] at h
  refine runs_flatT rfl rfl fun w hw => ?_
  obtain ⟨T, fr, hc⟩ := hw (3, (Lib.pow10Tab.map fun z => Value.int .u64 z).toArray) (by simp [tabsZ])
  refine Calls.mono (Any.strconv_Itoa Tryz.laysItoa n h.1 h.2 w ?_) ?_
  · have hg : Tryz.prog.globalNamed "internal/strconv.uint64pow10" = some 3 := by kernel_rfl
    simp only [Lib.TabIs, World.var?, hg, Option.bind_some, hc]
  · rintro e w' ⟨rfl, k, os, rfl⟩
    exact ⟨rfl, Lib.below_grow _ _ (Nat.le_refl _) _ _⟩
theorem fCut_runs {z : PZ} {s t : Str} {r : Str × Str × Bool} (hr : fCut s t = some r) : RunsT (TabM (tabsZ z)) Tryz.prog 19 [.str s, .str t] [] (fun q H' => q = [.str r.1, .str r.2.1, .bool r.2.2] ∧ H' = []) := by
  unfold fCut at hr
  obtain ⟨h, hr⟩ := chk_some hr
  have hr := Option.some.inj hr
  subst hr
  simp only [Nat.blt_eq] at h
  refine runs_flatT rfl rfl fun w hw => ?_
  obtain ⟨T, fr, hc⟩ := hw (0, #[.int .i64 z.m]) (by simp [tabsZ])
  refine Calls.mono (Any.strings_Cut Tryz.laysCut (bstr s) (bstr t) z.m w (by rw [bstr_size]; exact h) ?_) ?_
  · show w.cell? ⟨0, 0, none⟩ = _
    simp [World.cell?, hc]
  · rintro e w' ⟨rfl, k, rfl⟩
    exact ⟨rfl, Joins.below_draws _ _ _⟩
theorem fIndex_runs {z : PZ} {s t : Str} {r : Int} (hr : fIndex s t = some r) : RunsT (TabM (tabsZ z)) Tryz.prog 63 [.str s, .str t] [] (fun q H' => q = [.int .i64 r] ∧ H' = []) := by
  unfold fIndex at hr
  obtain ⟨h, hr⟩ := chk_some hr
  have hr := Option.some.inj hr
  subst hr
  simp only [Nat.blt_eq] at h
  refine runs_flatT rfl rfl fun w hw => ?_
  obtain ⟨T, fr, hc⟩ := hw (0, #[.int .i64 z.m]) (by simp [tabsZ])
  refine Calls.mono (Any.strings_Index Tryz.laysIndex (bstr s) (bstr t) z.m w (by rw [bstr_size]; exact h) ?_) ?_
  · show w.cell? ⟨0, 0, none⟩ = _
    simp [World.cell?, hc]
  · rintro e w' ⟨rfl, rfl⟩
    exact ⟨by simp [bstr]; rfl, Below.refl _ _⟩
theorem pAwake_runs {r : Bool} (hr : pAwake = some r) : RunsP Tryz.prog 5 [] [.bool r] := by
  obtain rfl : true = r := by simpa [pAwake] using hr
  refine runs_flat rfl rfl fun w => ?_
  exact Calls.mono (awake_spec (w := w)) fun e w' ⟨v, he, _, hv, hb⟩ => ⟨by rw [he, hv]; rfl, hb⟩
theorem fAtoi_runs {z : PZ} {s : Str} {r : Int × Unit} (hr : fAtoi s = some r) : RunsT (TabM (tabsZ z)) Tryz.prog 23 [.str s] [] (fun q H' => q = [.int .i64 r.1, .any] ∧ H' = []) := by
  unfold fAtoi at hr
  obtain ⟨h, hr⟩ := chk_some hr
  have hr := Option.some.inj hr
  subst hr
  simp only [Nat.ble_eq] at h
  intro m0 hT e w m ρ φ F vs hm0 hv ho hs
  rw [flat_repL (as' := [.str s]) rfl hv]
  have tb : ∀ p ∈ tabsZ z, ∃ T fr, w.heap[p.1]? = some (.cells p.2 T fr) := fun p hp => by
    obtain ⟨T, fr, h1⟩ := hT p hp; exact ⟨T, fr, hs.fz _ _ (hm0 _ _ h1)⟩
  suffices hc : Calls Tryz.prog 23 #[.string (bstr s)] w fun e w' => ∃ x, e = .returned (.tuple #[.int .i64 (match Lib.atoiAll s with
      | .ok v => v
      | .range => Lib.atoiSat s
      | _ => 0), x]) ∧ Below w.heap.size w w' by
    refine Calls.mono hc ?_
    rintro ex w' ⟨x, rfl, hb⟩
    exact ⟨_, rfl, ⟨DK.of_below hb, hb.size⟩, _, [], m, ρ, φ, ⟨rfl, rfl⟩, Mem.le_refl _, fun _ _ h => h, Nat.le_refl _, ho, hs.ext hb, [_, x], ⟨rfl, trivial, trivial⟩, rfl⟩
  have hz : (bstr s).size ≤ 281474976710656 := by rw [bstr_size]; exact h
  have hd : (bstr s).data.toList = s := by simp [bstr]
  cases hk : Lib.atoiAll s with
  | ok v =>
    refine Calls.mono (Any.strconv_Atoi_ok Tryz.laysAtoi (bstr s) (by omega) v (by rw [hd]; exact hk) w) ?_
    rintro e w' ⟨rfl, hw⟩
    refine ⟨_, rfl, ?_⟩
    rcases hw with rfl | ⟨t, rfl⟩
    · exact Below.refl _ _
    · exact Joins.below_bytesWorld _ _ _ _ (Nat.le_refl _)
  | range =>
    obtain ⟨T, fr, hc⟩ := tb (2, #[.iface z.t2 z.v2]) (by simp [tabsZ])
    refine Calls.mono (Any.strconv_Atoi_range_var Tryz.laysAtoi (bstr s) hz (by rw [hd]; exact hk) z.t2 z.v2 w ?_) ?_
    · have hg : Tryz.prog.globalNamed "strconv.ErrRange" = some 2 := by kernel_rfl
      simp only [World.var?, hg, Option.bind_some, hc]
    · rintro e w' ⟨N, rfl, _, _, hb⟩
      rw [hd]
      exact ⟨_, rfl, hb⟩
  | _ =>
    obtain ⟨T, fr, hc⟩ := tb (1, #[.iface z.t1 z.v1]) (by simp [tabsZ])
    refine Calls.mono (Any.strconv_Atoi_syntax_var Tryz.laysAtoi (bstr s) hz (by rw [hd]; exact hk) z.t1 z.v1 w ?_) ?_
    · have hg : Tryz.prog.globalNamed "strconv.ErrSyntax" = some 1 := by kernel_rfl
      simp only [World.var?, hg, Option.bind_some, hc]
    · rintro e w' ⟨N, rfl, _, _, hb⟩
      exact ⟨_, rfl, hb⟩
theorem map_bstr (xs : List Str) : (xs.map bstr).map (fun b : ByteArray => b.data.toList) = xs := by
  induction xs with
  | nil => rfl
  | cons x xs ih => simp only [List.map_cons, ih]; simp [bstr]
theorem join_calls {m : Mem} {w : World} {xs : List Str} {sep : Str} {v : Value} (hfz : ∀ b o, m b = some o → w.heap[b]? = some o) (h : RC m (.slice .str) xs [v]) (h1 : xs.length ≤ 140737488355328) (h2 : (Lib.join xs sep).length ≤ 140737488355328) :
    Calls Tryz.prog 17 #[v, .string (bstr sep)] w fun e w' => e = .returned (.string (bstr (Lib.join xs sep))) ∧ Below w.heap.size w w' := by
  have hd : (bstr sep).data.toList = sep := by simp [bstr]
  obtain ⟨A, n, c, hv, hl, hc, _, b, o, hA, hx⟩ := h
  obtain rfl := List.cons.inj hv |>.1
  by_cases h0 : xs = []
  · subst h0
    obtain rfl : 0 = n := by simpa using hl
    refine Calls.mono (Any.strings_Join_none Tryz.laysJoin Tryz.Builder_Extra_156 A c (bstr sep) w) ?_
    rintro e w' ⟨rfl, rfl⟩
    exact ⟨rfl, Below.refl _ _⟩
  · have hp : 0 < n := by rw [← hl]; exact List.length_pos_iff.2 h0
    obtain rfl := hA hp
    have hcell : ∀ (i : Nat) y, xs[i]? = some y → ∃ cs T fr, m b = some (.cells cs T fr) ∧ cs[o + i]? = some (.string (bstr y)) := by
      intro i y hy
      obtain ⟨us, hu, hcm⟩ := hx i y hy
      obtain rfl : us = [.string (bstr y)] := hu
      simpa [Ty.cells] using hcm 0 _ rfl
    have e1 : n = (xs.map bstr).length := by simp [hl]
    rw [e1]
    refine Calls.mono (Any.strings_Join Tryz.laysJoin Tryz.Builder_Extra_156 b o c (xs.map bstr) (bstr sep) w ?_ ?_ (by simpa using h1) (by omega) (by rw [map_bstr, hd]; exact h2)) ?_
    · intro j x hj
      rw [List.getElem?_map] at hj
      obtain ⟨y, hy, rfl⟩ := Option.map_eq_some_iff.1 hj
      obtain ⟨cs, T, fr, g1, g2⟩ := hcell j y hy
      simp [World.cell?, hfz _ _ g1, g2]
    · obtain ⟨y, ys, rfl⟩ := List.exists_cons_of_ne_nil h0
      obtain ⟨cs, T, fr, g1, g2⟩ := hcell 0 y rfl
      exact (Array.getElem?_eq_some_iff.1 (hfz _ _ g1)).1
    · rintro e w' ⟨rfl, hb⟩
      rw [map_bstr, hd]
      exact ⟨rfl, hb⟩
theorem fJoin_runs {z : PZ} {s : List Str} {t : Str} {r : Str} (hr : fJoin s t = some r) : RunsT (TabM (tabsZ z)) Tryz.prog 17 [.sl .str s, .str t] [] (fun q H' => q = [.str r] ∧ H' = []) := by
  unfold fJoin at hr
  obtain ⟨h, hr⟩ := chk_some hr
  have hr := Option.some.inj hr
  subst hr
  simp only [Bool.and_eq_true, Nat.ble_eq] at h
  intro m0 hT e w m ρ φ F vs hm0 hv ho hs
  match vs, hv with
  | [v, u], ⟨hv1, hv2, _⟩ =>
    obtain rfl : u = .string (bstr t) := hv2
    refine Calls.mono (join_calls hs.fz hv1 h.1 h.2) ?_
    rintro ex w' ⟨rfl, hb⟩
    exact ⟨_, rfl, ⟨DK.of_below hb, hb.size⟩, _, [], m, ρ, φ, ⟨rfl, rfl⟩, Mem.le_refl _, fun _ _ h => h, Nat.le_refl _, ho, hs.ext hb, [_], ⟨rfl, trivial⟩, rfl⟩
theorem osrep_nil {m m' : Mem} {ρ : List Value} {φ : List Frag} (h : OsRep m ρ [] φ) : OsRep m' ρ [] φ := by
  obtain ⟨h1, h2, _⟩ := h
  exact ⟨h1, h2, fun i o' h' f' a b c => by simp_all⟩
theorem fSplit_runs {z : PZ} {s t : Str} {r : List Str} (hr : fSplit s t = some r) : RunsT (TabM (tabsZ z)) Tryz.prog 24 [.str s, .str t] [] (fun q H' => q = [.sl .str r] ∧ H' = []) := by
  unfold fSplit at hr
  obtain ⟨h, hr⟩ := chk_some hr
  have hr := Option.some.inj hr
  subst hr
  simp only [Bool.and_eq_true, Nat.ble_eq, Nat.blt_eq] at h
  intro m0 hT e w m ρ φ F vs hm0 hv ho hs
  rw [flat_repL (as' := [.str s, .str t]) rfl hv]
  obtain ⟨T, fr, hc⟩ : ∃ T fr, w.heap[0]? = some (.cells #[.int .i64 z.m] T fr) := by
    obtain ⟨T, fr, h1⟩ := hT (0, #[.int .i64 z.m]) (by simp [tabsZ]); exact ⟨T, fr, hs.fz _ _ (hm0 _ _ h1)⟩
  have h1 : 1 ≤ (bstr t).size := by rw [bstr_size]; exact h.2
  have hlen := Lib.splitB_all (bstr t) h1 0 _ (bstr s) rfl
  have hle := Lib.countB_le (bstr t) h1 (bstr s).size (bstr s) (Nat.le_refl _)
  rw [bstr_size] at hle
  refine Calls.mono (Any.strings_Split Tryz.laysSplit (by kernel_rfl) (bstr s) (bstr t) z.m w (by rw [bstr_size]; exact h.1) ?_ h1) ?_
  · show w.cell? ⟨0, 0, none⟩ = _
    simp [World.cell?, hc]
  · rintro ex w' ⟨rfl, rfl⟩
    have hN := new_push w (.cells ((Lib.splitB (bstr t) 0 (Lib.countB (bstr s) (bstr t)) (bstr s)).map Value.string).toArray (Tryz.laysSplit_ren.t 9))
    have hs2 := hs.alloc hN rfl
    have hs3 := SH.frz (g := [(w.heap.size, (.cells ((Lib.splitB (bstr t) 0 (Lib.countB (bstr s) (bstr t)) (bstr s)).map Value.string).toArray (Tryz.laysSplit_ren.t 9)))]) (f := φ.flatten ++ F) hs2
    have hg := add_get (m := m) (g := [(w.heap.size, (.cells ((Lib.splitB (bstr t) 0 (Lib.countB (bstr s) (bstr t)) (bstr s)).map Value.string).toArray (Tryz.laysSplit_ren.t 9)))]) (b := w.heap.size) (o := (.cells ((Lib.splitB (bstr t) 0 (Lib.countB (bstr s) (bstr t)) (bstr s)).map Value.string).toArray (Tryz.laysSplit_ren.t 9))) (by simp) List.mem_cons_self (hs2.dis _ List.mem_cons_self) rfl
    refine ⟨_, rfl, ⟨DK.of_below hN.ext, hN.ext.size⟩, _, [], _, ρ, φ, ⟨rfl, rfl⟩, Mem.le_add _ _, fun _ _ h => h, Nat.le_refl _, osrep_nil ho, hs3, [_], ⟨?_, trivial⟩, rfl⟩
    refine ⟨_, _, _, rfl, by simpa using hlen, Nat.le_refl _, by unfold cap47; omega, w.heap.size, 0, fun _ => rfl, fun i y hy => ⟨[.string (bstr y)], rfl, ?_⟩⟩
    intro j v hj
    refine ⟨_, _, _, hg, ?_⟩
    cases j with
    | succ j => simp at hj
    | zero =>
      obtain rfl : Value.string (bstr y) = v := by simpa using hj
      rw [List.getElem?_map] at hy
      obtain ⟨z, hz, rfl⟩ := Option.map_eq_some_iff.1 hy
      simp [Ty.cells, hz, bstr_data]
end Go.Ab


set_option linter.unusedVariables false
set_option maxRecDepth 100000
namespace Go.Ab
def fp4_b0 (p0 : List (List (Int × Int))) (i1 : Int) (s : Unit) : Option (Unit ⊕ Unit) :=
(ix p0 i1).bind fun x6 =>
bif decide (200 < (List.length x6 : Int)) then
(some (.inr ()))
else
(some (.inl ()))
def fp4 (p0 : List (List (Int × Int))) : Option (Bool) :=
(rng (fp4_b0 p0) (Int.toNat (List.length p0 : Int)) 0 ()).bind fun o3 => match o3 with
| .inl () => (some true)
| .inr () => (some false)
def fp57 (p0 : Int) : Option (Bool) :=
some ((decide (1 ≤ p0)) && (decide (p0 ≤ 13)))
def fp15  : Option ((List (Str × List Str × Int))) :=
some [(([116, 104, 114, 101, 97, 100] : Str), [([102, 114, 101, 101] : Str), ([115, 105, 110, 103, 108, 101] : Str)], 2), (([108, 105, 102, 101, 115, 112, 97, 110] : Str), [([116, 114, 97, 110, 115, 105, 101, 110, 116] : Str), ([112, 101, 114, 115, 105, 115, 116, 101, 110, 116] : Str)], 2), (([117, 110, 105, 113, 117, 101] : Str), [([117, 110, 105, 113, 117, 101] : Str), ([109, 117, 108, 116, 105, 112, 108, 101] : Str)], 2), (([97, 115, 115, 105, 103, 110] : Str), [([115, 121, 115, 116, 101, 109] : Str), ([117, 115, 101, 114] : Str)], 2), (([114, 101, 116, 97, 105, 110] : Str), [([114, 101, 116, 97, 105, 110] : Str), ([102, 111, 114, 103, 101, 116] : Str)], 2), (([112, 114, 111, 99, 101, 115, 115] : Str), [([109, 97, 112] : Str), ([100, 101, 102, 97, 117, 108, 116] : Str), ([109, 97, 110, 97, 103, 101, 114] : Str)], 3), (([97, 99, 116, 105, 118, 97, 116, 101] : Str), [([101, 120, 112, 108, 105, 99, 105, 116] : Str), ([105, 109, 112, 108, 105, 99, 105, 116] : Str)], 2), (([114, 101, 98, 105, 110, 100] : Str), [([116, 114, 97, 110, 115, 112, 97, 114, 101, 110, 116] : Str), ([107, 101, 101, 112] : Str), ([110, 101, 118, 101, 114] : Str)], 3), (([99, 101, 114, 116, 97, 105, 110, 116, 121] : Str), [([115, 101, 110, 116] : Str), ([110, 111, 110, 101] : Str), ([115, 101, 114, 118, 101, 114] : Str), ([100, 111, 110, 101] : Str)], 4), (([108, 105, 109, 105, 116] : Str), ([] : List Str), 1000000), (([114, 111, 117, 116, 101] : Str), [([100, 105, 114, 101, 99, 116] : Str), ([102, 111, 114, 119, 97, 114, 100] : Str), ([115, 116, 111, 114, 101] : Str)], 3), (([112, 114, 105, 111, 114, 105, 116, 121] : Str), ([] : List Str), 100), (([111, 114, 100, 101, 114] : Str), [([97, 110, 121] : Str), ([116, 105, 109, 101] : Str), ([112, 114, 105, 111, 114, 105, 116, 121] : Str), ([100, 101, 97, 100, 108, 105, 110, 101] : Str)], 4)]
def fp52 (p0 : Int) : Option (Int) :=
(fp15).bind fun x1 =>
(aig 13 x1 (w64 (p0 - 1))).bind fun x3 =>
some (min (List.length x3.2.1 : Int) 1)
def fp36 (p0 : Int × Int) : Option (Bool) :=
(fp57 p0.1).bind fun x1 =>
bif (!x1 || Option.isSome (fp52 p0.1)) then
bif (!(x1 && (decide (((fp52 p0.1).getD default) ≤ p0.2))) || Option.isSome (fp15)) then
bif (!(x1 && (decide (((fp52 p0.1).getD default) ≤ p0.2))) || Option.isSome (aig 13 ((fp15).getD default) (w64 (p0.1 - 1)))) then
some ((x1 && (decide (((fp52 p0.1).getD default) ≤ p0.2))) && (decide (p0.2 ≤ (((((aig 13 ((fp15).getD default) (w64 (p0.1 - 1))).getD default)).2).2))))
else none
else none
else none
def fp14_b0 (p0 : List (Int × Int)) (i1 : Int) (s : Unit) : Option (Unit ⊕ Unit) :=
(ix p0 i1).bind fun x6 =>
(fp36 x6).bind fun x8 =>
bif (!((!(!x8)) && (decide (0 < i1))) || Option.isSome (ix p0 (w64 (i1 - 1)))) then
bif (!x8) || ((decide (0 < i1)) && (decide (x6.1 ≤ ((((ix p0 (w64 (i1 - 1))).getD default)).1)))) then
(some (.inr ()))
else
(some (.inl ()))
else none
def fp14 (p0 : List (Int × Int)) : Option (Bool) :=
(rng (fp14_b0 p0) (Int.toNat (List.length p0 : Int)) 0 ()).bind fun o3 => match o3 with
| .inl () => (some true)
| .inr () => (some false)
def fp6_b0 (p0 : List (Int × Int)) (i4 : Int) (s6 : List Str) : Option ((List Str) ⊕ Unit) :=
(ix p0 i4).bind fun x14 =>
(fp15).bind fun x16 =>
(aig 13 x16 (w64 (x14.1 - 1))).bind fun x18 =>
(fItoa x14.2).bind fun x20 =>
((bif decide (0 < (List.length x18.2.1 : Int)) then
((ix x18.2.1 (w64 (x14.2 - 1))).bind fun x26 =>
some (.inl x26))
else
(some (.inl x20))) : Option (Str ⊕ Unit)).bind fun o23 => match o23 with
| .inl s22 => (bif strOk (List.length x18.1 + List.length ([32] : Str)) then
bif strOk (List.length (x18.1 ++ ([32] : Str)) + List.length s22) then
bif apOk 16 (List.length s6 + List.length [((x18.1 ++ ([32] : Str)) ++ s22)]) then
some (.inl (s6 ++ [((x18.1 ++ ([32] : Str)) ++ s22)]))
else none
else none
else none)
| .inr _ => none
def fp6 (p0 : List (Int × Int)) : Option (Str) :=
(fp14 p0).bind fun x1 =>
bif !x1 then
(some ([] : Str))
else
((rng (fp6_b0 p0) (Int.toNat (List.length p0 : Int)) 0 ([] : List Str)).bind fun o9 => match o9 with
| .inl s6 => ((fJoin s6 ([44, 32] : Str)).bind fun x11 =>
some x11)
| .inr _ => none)
def fp61_b0 (p2_0 : Str) (s : Unit) : Option (Unit ⊕ Unit) :=
bif decide (0 < (List.length p2_0 : Int)) then
(none)
else
(some (.inr ()))
def fp61_b1 {σ R : Type} (q : σ → Str → Option (σ ⊕ R)) (p1 : Str) (p3 : Int) (s : σ × Str) : Option ((σ × Str) ⊕ ((σ × Str) ⊕ (R × Str))) :=
match s with
| (s5, s6) => ((fIndex s6 p1).bind fun x19 =>
bif decide (x19 < 0) then
(some (.inr (.inl (s5, s6))))
else
(bif slOk 0 (w64 (x19 + p3)) (List.length s6) then
(q s5 ((s6.take (Int.toNat (w64 (x19 + p3)))).drop (Int.toNat 0))).bind fun o23 => match o23 with
| .inl s25 => (bif slOk (w64 (x19 + (List.length p1 : Int))) (List.length s6 : Int) (List.length s6) then
some (.inl (s25, ((s6.take (Int.toNat (List.length s6 : Int))).drop (Int.toNat (w64 (x19 + (List.length p1 : Int)))))))
else none)
| .inr r26 => (some (.inr (.inr (r26, s6))))
else none))
def fp61 {σ R : Type} (q : σ → Str → Option (σ ⊕ R)) (s0 : σ) (p1 : Str) (p2_0 : Str) (p3 : Int) : Option (σ ⊕ R) :=
bif decide ((List.length p1 : Int) = 0) then
((lrun (fp61_b0 p2_0) 1 ()).bind fun o2 => match o2 with
| () => (some (.inl s0)))
else
((lrun (fp61_b1 q p1 p3) (List.length p2_0 + 2) (s0, p2_0)).bind fun o13 => match o13 with
| .inl (s9, s10) => ((q s9 s10).bind fun o15 => match o15 with
| .inl s17 => (some (.inl s17))
| .inr r18 => (some (.inr r18)))
| .inr (s11, s12) => (some (.inr s11)))
def fp41 (p0 : Str) (p1 : Str) (p2 : Int) : Option (Unit) :=
some ()
def fp18 (p0 : Str) (p1 : Str) : Option (Unit) :=
(fp41 p0 p1 0).bind fun x1 =>
some ()
def fp21 (p0 : Str × List Str × Int) (p1 : Str) : Option (Bool) :=
some (decide (p0.1 = p1))
def fp20_b0 (p0 : List (Str × List Str × Int)) (q1 : (Str × List Str × Int) → Option Bool) (i1 : Int) (s : Unit) : Option (Unit ⊕ Int) :=
(ix p0 i1).bind fun x7 =>
(q1 x7).bind fun x9 =>
bif x9 then
(some (.inr i1))
else
(some (.inl ()))
def fp20 (p0 : List (Str × List Str × Int)) (q1 : (Str × List Str × Int) → Option Bool) : Option (Int) :=
(rng (fp20_b0 p0 q1) (Int.toNat (List.length p0 : Int)) 0 ()).bind fun o4 => match o4 with
| .inl () => (some (-1))
| .inr s3 => (some s3)
def fp22_b0 (p0 : List Str) (p1 : Str) (i1 : Int) (s : Unit) : Option (Unit ⊕ Int) :=
(ix p0 i1).bind fun x7 =>
bif decide (p1 = x7) then
(some (.inr i1))
else
(some (.inl ()))
def fp22 (p0 : List Str) (p1 : Str) : Option (Int) :=
(rng (fp22_b0 p0 p1) (Int.toNat (List.length p0 : Int)) 0 ()).bind fun o4 => match o4 with
| .inl () => (some (-1))
| .inr s3 => (some s3)
def fp7_b0 (s6 : (List (Int × Int))) (y12 : Str) : Option (((List (Int × Int))) ⊕ ((List (Int × Int)))) :=
(fCut y12 ([32] : Str)).bind fun x13 =>
(fp15).bind fun x15 =>
bif Nat.beq (List.length x15) 13 then
bif slOk 0 13 13 then
(fp20 (x15.take (Int.toNat 13)) (fun y1 => fp21 y1 x13.1)).bind fun x19 =>
bif decide (x19 < 0) then
(some (.inr s6))
else
((aig 13 x15 x19).bind fun x22 =>
(fp22 x22.2.1 x13.2.1).bind fun x24 =>
((bif decide ((List.length x22.2.1 : Int) = 0) then
((fAtoi x13.2.1).bind fun x30 =>
some (.inl x30.1))
else
(some (.inl (w64 (x24 + 1))))) : Option (Int ⊕ Unit)).bind fun o27 => match o27 with
| .inl s26 => (bif apOk 16 (List.length s6 + List.length [((w64 (x19 + 1)), s26)]) then
some (.inl (s6 ++ [((w64 (x19 + 1)), s26)]))
else none)
| .inr _ => none)
else none
else none
def fp7 (p0 : Str) : Option ((List (Int × Int)) × Int) :=
bif decide (65536 < (List.length p0 : Int)) then
(some (([] : List (Int × Int)), 3))
else
(bif decide (p0 = ([] : Str)) then
(some (([] : List (Int × Int)), 0))
else
((fp18 p0 ([44, 32] : Str)).bind fun x3 =>
(fp61 fp7_b0 ([] : List (Int × Int)) ([44, 32] : Str) p0 0).bind fun o10 => match o10 with
| .inl s6 => ((fp14 s6).bind fun x33 =>
bif (!(!(!x33)) || Option.isSome (fp6 s6)) then
bif (!x33) || (!decide (((fp6 s6).getD default) = p0)) then
(some (([] : List (Int × Int)), 2))
else
(some (s6, 0))
else none)
| .inr s9 => (some (([] : List (Int × Int)), 2))))
def fp25 (p0 : Int) : Option (List Str) :=
bif decide (p0 = 1) then
(some [([116, 104, 114, 101, 97, 100] : Str), ([102, 114, 101, 101] : Str), ([115, 105, 110, 103, 108, 101] : Str)])
else
(bif decide (p0 = 2) then
(some [([108, 105, 102, 101, 115, 112, 97, 110] : Str), ([116, 114, 97, 110, 115, 105, 101, 110, 116] : Str), ([112, 101, 114, 115, 105, 115, 116, 101, 110, 116] : Str)])
else
(bif decide (p0 = 3) then
(some [([117, 110, 105, 113, 117, 101] : Str), ([117, 110, 105, 113, 117, 101] : Str), ([109, 117, 108, 116, 105, 112, 108, 101] : Str)])
else
(bif decide (p0 = 4) then
(some [([97, 115, 115, 105, 103, 110] : Str), ([115, 121, 115, 116, 101, 109] : Str), ([117, 115, 101, 114] : Str)])
else
(bif decide (p0 = 5) then
(some [([114, 101, 116, 97, 105, 110] : Str), ([114, 101, 116, 97, 105, 110] : Str), ([102, 111, 114, 103, 101, 116] : Str)])
else
(bif decide (p0 = 6) then
(some [([112, 114, 111, 99, 101, 115, 115] : Str), ([109, 97, 112] : Str), ([100, 101, 102, 97, 117, 108, 116] : Str), ([109, 97, 110, 97, 103, 101, 114] : Str)])
else
(bif decide (p0 = 7) then
(some [([97, 99, 116, 105, 118, 97, 116, 101] : Str), ([101, 120, 112, 108, 105, 99, 105, 116] : Str), ([105, 109, 112, 108, 105, 99, 105, 116] : Str)])
else
(bif decide (p0 = 8) then
(some [([114, 101, 98, 105, 110, 100] : Str), ([116, 114, 97, 110, 115, 112, 97, 114, 101, 110, 116] : Str), ([107, 101, 101, 112] : Str), ([110, 101, 118, 101, 114] : Str)])
else
(bif decide (p0 = 9) then
(some [([99, 101, 114, 116, 97, 105, 110, 116, 121] : Str), ([115, 101, 110, 116] : Str), ([110, 111, 110, 101] : Str), ([115, 101, 114, 118, 101, 114] : Str), ([100, 111, 110, 101] : Str)])
else
(bif decide (p0 = 10) then
(some [([108, 105, 109, 105, 116] : Str)])
else
(bif decide (p0 = 11) then
(some [([114, 111, 117, 116, 101] : Str), ([100, 105, 114, 101, 99, 116] : Str), ([102, 111, 114, 119, 97, 114, 100] : Str), ([115, 116, 111, 114, 101] : Str)])
else
(bif decide (p0 = 12) then
(some [([112, 114, 105, 111, 114, 105, 116, 121] : Str)])
else
(bif decide (p0 = 13) then
(some [([111, 114, 100, 101, 114] : Str), ([97, 110, 121] : Str), ([116, 105, 109, 101] : Str), ([112, 114, 105, 111, 114, 105, 116, 121] : Str), ([100, 101, 97, 100, 108, 105, 110, 101] : Str)])
else
(some ([] : List Str))))))))))))))
def fp46 (p0 : Int) : Option (Bool) :=
some ((decide (1 ≤ p0)) && (decide (p0 ≤ 13)))
def fp26 (p0 : Int × Int) : Option (Bool) :=
(fp46 p0.1).bind fun x1 =>
bif !x1 then
(some false)
else
(bif decide (p0.1 = 10) then
(some ((decide (0 ≤ p0.2)) && (decide (p0.2 ≤ 1000000))))
else
(bif decide (p0.1 = 12) then
(some ((decide (0 ≤ p0.2)) && (decide (p0.2 ≤ 100))))
else
(bif (!(decide (1 ≤ p0.2)) || Option.isSome (fp25 p0.1)) then
some ((decide (1 ≤ p0.2)) && (decide (p0.2 < (List.length ((fp25 p0.1).getD default) : Int))))
else none)))
def fp11_b0 (p0 : List (Int × Int)) (i1 : Int) (s : Unit) : Option (Unit ⊕ Unit) :=
(ix p0 i1).bind fun x6 =>
(fp26 x6).bind fun x8 =>
bif (!((!(!x8)) && (decide (0 < i1))) || Option.isSome (ix p0 (w64 (i1 - 1)))) then
bif (!x8) || ((decide (0 < i1)) && (decide (x6.1 ≤ ((((ix p0 (w64 (i1 - 1))).getD default)).1)))) then
(some (.inr ()))
else
(some (.inl ()))
else none
def fp11 (p0 : List (Int × Int)) : Option (Bool) :=
(rng (fp11_b0 p0) (Int.toNat (List.length p0 : Int)) 0 ()).bind fun o3 => match o3 with
| .inl () => (some true)
| .inr () => (some false)
def fp9_b0 (p0 : List (Int × Int)) (i4 : Int) (s6 : List Str) : Option ((List Str) ⊕ Unit) :=
(ix p0 i4).bind fun x14 =>
(fp25 x14.1).bind fun x16 =>
(fItoa x14.2).bind fun x18 =>
((bif decide (1 < (List.length x16 : Int)) then
((ix x16 x14.2).bind fun x24 =>
some (.inl x24))
else
(some (.inl x18))) : Option (Str ⊕ Unit)).bind fun o21 => match o21 with
| .inl s20 => ((ix x16 0).bind fun x26 =>
bif strOk (List.length x26 + List.length ([32] : Str)) then
bif strOk (List.length (x26 ++ ([32] : Str)) + List.length s20) then
bif apOk 16 (List.length s6 + List.length [((x26 ++ ([32] : Str)) ++ s20)]) then
some (.inl (s6 ++ [((x26 ++ ([32] : Str)) ++ s20)]))
else none
else none
else none)
| .inr _ => none
def fp9 (p0 : List (Int × Int)) : Option (Str) :=
(fp11 p0).bind fun x1 =>
bif !x1 then
(some ([] : Str))
else
((rng (fp9_b0 p0) (Int.toNat (List.length p0 : Int)) 0 ([] : List Str)).bind fun o9 => match o9 with
| .inl s6 => ((fJoin s6 ([44, 32] : Str)).bind fun x11 =>
some x11)
| .inr _ => none)
def fp8_b2 (x18 : Str × Str × Bool) (x32 : List Str) (s : Int × Int) : Option ((Int × Int) ⊕ Int) :=
match s with
| (s39, s40) => (bif decide (s40 < (List.length x32 : Int)) then
((((ix x32 s40).bind fun x52 =>
bif decide (x52 = x18.2.1) then
(some (.inl s40))
else
(some (.inl s39))) : Option (Int ⊕ Unit)).bind fun o50 => match o50 with
| .inl s49 => (some (.inl (s49, (w64 (s40 + 1)))))
| .inr _ => none)
else
(some (.inr s39)))
def fp8_b1 (x18 : Str × Str × Bool) (s : Int × (List (Int × Int))) : Option ((Int × (List (Int × Int))) ⊕ ((List (Int × Int)))) :=
match s with
| (s20, s21) => (bif decide (s20 ≤ 13) then
((((fp25 s20).bind fun x32 =>
(ix x32 0).bind fun x34 =>
bif !decide (x34 = x18.1) then
(some (.inl s21))
else
((fAtoi x18.2.1).bind fun x37 =>
(lrun (fp8_b2 x18 x32) 20 (x37.1, 1)).bind fun s43 => match s43 with
| s43 => (bif apOk 16 (List.length s21 + List.length [(s20, s43)]) then
some (.inl (s21 ++ [(s20, s43)]))
else none))) : Option (((List (Int × Int))) ⊕ Unit)).bind fun o30 => match o30 with
| .inl s29 => (some (.inl ((w64 (s20 + 1)), s29)))
| .inr _ => none)
else
(some (.inr s21)))
def fp8_b0 (x3 : List Str) (i5 : Int) (s7 : (List (Int × Int))) : Option (((List (Int × Int))) ⊕ Unit) :=
(ix x3 i5).bind fun x16 =>
(fCut x16 ([32] : Str)).bind fun x18 =>
(lrun (fp8_b1 x18) 20 (1, s7)).bind fun s25 => match s25 with
| s25 => (some (.inl s25))
def fp8 (p0 : Str) : Option ((List (Int × Int)) × Int) :=
bif decide (65536 < (List.length p0 : Int)) then
(some (([] : List (Int × Int)), 3))
else
(bif decide (p0 = ([] : Str)) then
(some (([] : List (Int × Int)), 0))
else
((fSplit p0 ([44, 32] : Str)).bind fun x3 =>
(rng (fp8_b0 x3) (Int.toNat (List.length x3 : Int)) 0 ([] : List (Int × Int))).bind fun o10 => match o10 with
| .inl s7 => ((fp9 s7).bind fun x12 =>
bif !decide (x12 = p0) then
(some (([] : List (Int × Int)), 2))
else
(some (s7, 0)))
| .inr _ => none))
def fp10_b0 (p0 : List (Int × Int)) (p1 : List (Int × Int)) (i2 : Int) (s : Unit) : Option (Unit ⊕ Unit) :=
(ix p0 i2).bind fun x7 =>
(ix p1 i2).bind fun x9 =>
bif !((decide (x7.1 = x9.1)) && (decide (x7.2 = x9.2))) then
(some (.inr ()))
else
(some (.inl ()))
def fp10 (p0 : List (Int × Int)) (p1 : List (Int × Int)) : Option (Bool) :=
bif !decide ((List.length p0 : Int) = (List.length p1 : Int)) then
(some false)
else
((rng (fp10_b0 p0 p1) (Int.toNat (List.length p0 : Int)) 0 ()).bind fun o4 => match o4 with
| .inl () => (some true)
| .inr () => (some false))
def fp3 (p0 : List (Int × Int)) (p1 : Str) : Option (Bool) :=
(fp4 [p0]).bind fun x1 =>
bif (!x1) || (decide (1000 < (List.length p1 : Int))) then
((pAwake).bind fun x4 =>
some x4)
else
((fp6 p0).bind fun x6 =>
(fp7 p1).bind fun x8 =>
(fp8 p1).bind fun x10 =>
(fp9 p0).bind fun x12 =>
bif (!(!(!decide (x6 = x12))) || Option.isSome (fp10 x8.1 x10.1)) then
bif ((!decide (x6 = x12)) || (!((fp10 x8.1 x10.1).getD default))) || (!decide (x8.2 = x10.2)) then
(some false)
else
((fp11 p0).bind fun x16 =>
bif !x16 then
((pAwake).bind fun x19 =>
some x19)
else
((fp7 x6).bind fun x21 =>
bif (!(decide (x21.2 = 0)) || Option.isSome (fp10 x21.1 p0)) then
bif (!((decide (x21.2 = 0)) && ((fp10 x21.1 p0).getD default)) || Option.isSome (pAwake)) then
some (((decide (x21.2 = 0)) && ((fp10 x21.1 p0).getD default)) && ((pAwake).getD default))
else none
else none))
else none)
end Go.Ab


set_option linter.unusedVariables false
set_option maxRecDepth 100000
namespace Go.Ab
open Go.RowKit Go.Shelf Go.Proofs Go.Eng
abbrev Y1 : Ty := .st (.pair (.int .i64) (.int .i64))
abbrev Y2 : Ty := .st (.pair .str (.pair (.slice .str) (.int .i64)))
theorem und32 : Und Tryz.prog 32 (.slice 22) := by unfold Und; kernel_rfl
theorem sz22 : Sz Tryz.prog 22 1 := fun w => by kernel_rfl
theorem ts22 : TyS Tryz.prog 22 false 1 := ⟨fun w => by kernel_rfl, fun w => by kernel_rfl⟩
theorem und22 : Und Tryz.prog 22 (.slice 37) := by unfold Und; kernel_rfl
theorem zero44 : Eng.Zero Tryz.prog 44 (.agg #[.string ByteArray.empty, .slice none 0 0, .int .i64 0, .string ByteArray.empty, .slice none 0 0, .int .i64 0, .string ByteArray.empty, .slice none 0 0, .int .i64 0, .string ByteArray.empty, .slice none 0 0, .int .i64 0, .string ByteArray.empty, .slice none 0 0, .int .i64 0, .string ByteArray.empty, .slice none 0 0, .int .i64 0, .string ByteArray.empty, .slice none 0 0, .int .i64 0, .string ByteArray.empty, .slice none 0 0, .int .i64 0, .string ByteArray.empty, .slice none 0 0, .int .i64 0, .string ByteArray.empty, .slice none 0 0, .int .i64 0, .string ByteArray.empty, .slice none 0 0, .int .i64 0, .string ByteArray.empty, .slice none 0 0, .int .i64 0, .string ByteArray.empty, .slice none 0 0, .int .i64 0]) := fun w => by kernel_rfl
theorem bs41 : BuildS Tryz.prog 41 9 .str := buildS_of (z := .string ByteArray.empty) (by kernel_rfl) (by kernel_rfl) rfl
theorem zero43 : Eng.Zero Tryz.prog 43 (.agg #[.string ByteArray.empty, .slice none 0 0, .int .i64 0]) := fun w => by kernel_rfl
theorem bt43 : BuildT Tryz.prog 43 (.agg #[.string ByteArray.empty, .slice none 0 0, .int .i64 0]) (fun i => [(0, 1), (1, 1), (2, 1)][i]?) := buildT_struct zero43 (fs := Tryz.prog.fieldsOf 43) (by kernel_rfl) (fun w => by kernel_rfl)
theorem sz43 : Sz Tryz.prog 43 3 := fun w => by kernel_rfl
theorem bt44 : BuildT Tryz.prog 44 (.agg #[.string ByteArray.empty, .slice none 0 0, .int .i64 0, .string ByteArray.empty, .slice none 0 0, .int .i64 0, .string ByteArray.empty, .slice none 0 0, .int .i64 0, .string ByteArray.empty, .slice none 0 0, .int .i64 0, .string ByteArray.empty, .slice none 0 0, .int .i64 0, .string ByteArray.empty, .slice none 0 0, .int .i64 0, .string ByteArray.empty, .slice none 0 0, .int .i64 0, .string ByteArray.empty, .slice none 0 0, .int .i64 0, .string ByteArray.empty, .slice none 0 0, .int .i64 0, .string ByteArray.empty, .slice none 0 0, .int .i64 0, .string ByteArray.empty, .slice none 0 0, .int .i64 0, .string ByteArray.empty, .slice none 0 0, .int .i64 0, .string ByteArray.empty, .slice none 0 0, .int .i64 0]) (fun i => some (i * 3, 3)) := buildT_array (n := 13) zero44 (by kernel_rfl) sz43
theorem sz44 : Sz Tryz.prog 44 39 := fun w => by kernel_rfl
theorem ts44 : TyS Tryz.prog 44 true 39 := ⟨fun w => by kernel_rfl, fun w => by kernel_rfl⟩
theorem ent15 : Enters Tryz.prog 15 := enters_of Tryz.func15 (by kernel_rfl) rfl
theorem und44 : Und Tryz.prog 44 (.array 13 43) := by unfold Und; kernel_rfl
theorem ts43 : TyS Tryz.prog 43 true 3 := ⟨fun w => by kernel_rfl, fun w => by kernel_rfl⟩
theorem ts41 : TyS Tryz.prog 41 false 1 := ⟨fun w => by kernel_rfl, fun w => by kernel_rfl⟩
theorem fv43_1 : FieldV Tryz.prog 43 1 1 false 1 := fieldV_of' (fs := Tryz.prog.fieldsOf 43) (by kernel_rfl) (by kernel_rfl) ts41 (by decide)
theorem und41 : Und Tryz.prog 41 (.slice 9) := by unfold Und; kernel_rfl
theorem fa37_0 : FieldAt Tryz.prog 37 0 0 := fun b o w => by kernel_rfl
theorem ts3 : TyS Tryz.prog 3 false 1 := ⟨fun w => by kernel_rfl, fun w => by kernel_rfl⟩
theorem ent57 : Enters Tryz.prog 57 := enters_of Tryz.func57 (by kernel_rfl) rfl
theorem fa37_1 : FieldAt Tryz.prog 37 1 1 := fun b o w => by kernel_rfl
theorem ent52 : Enters Tryz.prog 52 := enters_of Tryz.func52 (by kernel_rfl) rfl
theorem fv43_2 : FieldV Tryz.prog 43 2 2 false 1 := fieldV_of' (fs := Tryz.prog.fieldsOf 43) (by kernel_rfl) (by kernel_rfl) ts3 (by decide)
theorem mixed : Tryz.prog.follows .mixedOrders = true := by kernel_rfl
theorem sz37 : Sz Tryz.prog 37 2 := fun w => by kernel_rfl
theorem ts37 : TyS Tryz.prog 37 true 2 := ⟨fun w => by kernel_rfl, fun w => by kernel_rfl⟩
theorem zero37 : Eng.Zero Tryz.prog 37 (.agg #[.int .i64 0, .int .i64 0]) := fun w => by kernel_rfl
theorem ent36 : Enters Tryz.prog 36 := enters_of Tryz.func36 (by kernel_rfl) rfl
theorem ent14 : Enters Tryz.prog 14 := enters_of Tryz.func14 (by kernel_rfl) rfl
theorem ent16 : Enters Tryz.prog 16 := enters_of Tryz.func16 (by kernel_rfl) rfl
theorem fa43_1 : FieldAt Tryz.prog 43 1 1 := fun b o w => by kernel_rfl
theorem sz9 : Sz Tryz.prog 9 1 := fun w => by kernel_rfl
theorem ts9 : TyS Tryz.prog 9 false 1 := ⟨fun w => by kernel_rfl, fun w => by kernel_rfl⟩
theorem fa43_0 : FieldAt Tryz.prog 43 0 0 := fun b o w => by kernel_rfl
theorem app41 : AppT Tryz.prog 41 9 (Ty.cells .str) 16 := appT_of (z := .string ByteArray.empty) (by kernel_rfl) (by kernel_rfl) rfl rfl
theorem ent17 : Enters Tryz.prog 17 := enters_of Tryz.func17 (by kernel_rfl) rfl
theorem und9 : Und Tryz.prog 9 .string := by unfold Und; kernel_rfl
theorem ent63 : Enters Tryz.prog 63 := enters_of Tryz.func63 (by kernel_rfl) rfl
theorem ent41 : Enters Tryz.prog 41 := enters_of Tryz.func41 (by kernel_rfl) rfl
theorem und54 : Und Tryz.prog 54 (.slice 43) := by unfold Und; kernel_rfl
theorem fp4_runs {p0 : List (List (Int × Int))} {r : Bool} (hr : fp4 p0 = some r) : RunsP Tryz.prog 4 [.sl (.slice Y1) p0] [.bool r] := by
  refine runs_w Tryz.func4 Tryz.ntmps4 rfl (rs := [.tmp 2]) rfl rfl fun w0 X hX => ?_
  refine awc_seq ?_
  refine awc_region ?_
  refine awl_v (av_assign rfl) ?_
  refine awl_nil (athen_norm (awc_seq (awc_seq ?_)))
  refine awc_region ?_
  refine awl_v (av_move rfl) ?_
  refine awl_v (av_len_sl (t := (.slice Y1)) rfl rfl und32 rfl) ?_
  refine awl_v (av_move rfl) ?_
  refine awl_nil (athen_norm (awc_block ?_))
  obtain ⟨o3, e4, hr⟩ := bnd_some hr
  refine awc_len (t := 0) rfl (fun hl => ?_)
  refine awc_range (S := Unit) (R := Unit) (List.length p0 : Int) (fp4_b0 p0) (fun p => match p with | (i1, ()) => (⟨[(2, .bool false), (5, .sl (.slice Y1) p0), (6, .int .i64 (List.length p0 : Int)), (7, .int .i64 i1)], [], 0⟩ : AS)) (fun o e st => match o with | .inl () => e = .exit 0 ∧ Wk X st ⟨[(2, .bool false)], [], 0⟩ | .inr () => e = .ret ∧ Wk X st ⟨[(2, .bool false)], [], 0⟩) (len_ok hl) e4 (wk_of hX [] 4 rfl rfl ⟨⟨_, rfl, cv0⟩, ⟨_, rfl, cv0⟩, ⟨_, rfl, cv0⟩, ⟨_, rfl, cv0⟩, trivial⟩ trivial) ?_ ?_
  · intro e st hx
    rcases o3 with _ | _
    · obtain ⟨rfl, hw⟩ := hx
      refine ablock_here (athen_norm ((awc_wk hw) (awc_seq ?_)))
      refine awc_region ?_
      refine awl_v (av_assign rfl) ?_
      have hr := Option.some.inj hr
      subst hr
      exact awl_nil (athen_norm (awc_ret (ret_q (l' := [(2, .bool true)]) (wk_of hX [] 4 rfl rfl ⟨⟨_, rfl, cv0⟩, trivial⟩ trivial) rfl ⟨rfl, trivial⟩)))
    · obtain ⟨rfl, hw⟩ := hx
      have hr := Option.some.inj hr
      subst hr
      exact ablock_ret (athen_ret (ret_q (l' := [(2, .bool false)]) (Wk.trans hw (wk_of hX [] 4 rfl rfl ⟨⟨_, rfl, cv0⟩, trivial⟩ trivial)) rfl ⟨rfl, trivial⟩))
  · rintro i1 _ o ho
    refine awc_seq ?_
    refine awc_region ?_
    refine awl_v (av_lss rfl rfl) ?_
    refine awl_nil (athen_norm (awc_seq ?_))
    refine awc_cond (b := decide (i1 < (List.length p0 : Int))) rfl (fun hc5 => ?_) (fun hc5 => ?_)
    · obtain ⟨q, hr, rfl⟩ := rb_t hc5 ho
      refine awc_skip (athen_norm (awc_seq (awc_block (awc_seq ?_))))
      refine awc_region ?_
      obtain ⟨x6, e7, hr⟩ := bnd_some hr
      refine awl_v (av_ia_sl (t := (.slice Y1)) (e := x6) und32 sz22 rfl rfl e7) ?_
      refine awl_v (av_load_rp ts22 rfl) ?_
      refine awl_v (av_assign rfl) ?_
      refine awl_nil (athen_norm (awc_seq ?_))
      refine awc_region ?_
      refine awl_v (av_move rfl) ?_
      refine awl_v (av_len_sl (t := Y1) rfl rfl und22 rfl) ?_
      refine awl_v (av_gtr rfl rfl) ?_
      refine awl_nil (athen_norm ?_)
      refine awc_cond (b := decide (200 < (List.length x6 : Int))) rfl (fun hc8 => ?_) (fun hc8 => ?_)
      · have hr := if_t hc8 hr
        refine awc_seq ?_
        refine awc_region ?_
        refine awl_v (av_assign rfl) ?_
        have hr := Option.some.inj hr
        subst hr
        exact awl_nil (athen_norm (awc_ret (ablock_ret (athen_ret (⟨rfl, (wk_of hX [] 4 rfl rfl ⟨⟨_, rfl, cv0⟩, trivial⟩ trivial)⟩)))))
      · have hr := if_f hc8 hr
        refine awc_skip (ablock_norm (athen_norm ?_))
        refine awc_region ?_
        refine awl_v (av_add rfl rfl) ?_
        refine awl_v (av_move rfl) ?_
        have hr := Option.some.inj hr
        subst hr
        exact awl_nil ((wk_of hX [] 4 rfl rfl ⟨⟨_, rfl, cv0⟩, ⟨_, rfl, cv0⟩, ⟨_, rfl, cv0⟩, ⟨_, rfl, cv0⟩, trivial⟩ trivial))
    · obtain rfl := rb_f hc5 ho
      exact awc_exit (athen_exit (⟨rfl, (wk_of hX [] 4 rfl rfl ⟨⟨_, rfl, cv0⟩, trivial⟩ trivial)⟩))
theorem fp57_runs {p0 : Int} {r : Bool} (hr : fp57 p0 = some r) : RunsP Tryz.prog 57 [.int .i64 p0] [.bool r] := by
  refine runs_w Tryz.func57 Tryz.ntmps57 rfl (rs := [.tmp 2]) rfl rfl fun w0 X hX => ?_
  refine awc_seq ?_
  refine awc_region ?_
  refine awl_v (av_assign rfl) ?_
  refine awl_nil (athen_norm (awc_seq ?_))
  refine awc_text [0] [(true, .int .i64 p0), (true, .bool (decide (1 ≤ p0))), (true, .bool (decide (1 ≤ p0))), (decide (1 ≤ p0), .int .i64 p0), (decide (1 ≤ p0), .bool (decide (p0 ≤ 13))), (true, .bool ((decide (1 ≤ p0)) && (decide (p0 ≤ 13)))), (true, .bool ((decide (1 ≤ p0)) && (decide (p0 ≤ 13))))] [[], [0], [1], [2], [3, 2], [4, 2], [5]] [6] rfl rfl rfl rfl rfl ⟨?_, ?_, ?_, ?_, ?_, ?_, ?_, trivial⟩ (allT_of ⟨rfl, trivial⟩) ?_
  · exact ob_v rfl (fun hg => allT_of trivial) (fun hg => av_move rfl)
  · exact ob_v rfl (fun hg => allT_of ⟨rfl, trivial⟩) (fun hg => av_geq rfl rfl)
  · exact ob_v rfl (fun hg => allT_of ⟨rfl, trivial⟩) (fun hg => av_move rfl)
  · exact ob_v ⟨rfl, rfl, rfl, _, rfl, rfl⟩ (fun hg => allT_of ⟨rfl, trivial⟩) (fun hg => av_move rfl)
  · exact ob_v ⟨rfl, rfl, rfl, _, rfl, rfl⟩ (fun hg => allT_of ⟨hg, rfl, trivial⟩) (fun hg => av_leq rfl rfl)
  · exact ob_pick (b := true) (p := decide (1 ≤ p0)) (q := decide (p0 ≤ 13)) rfl rfl rfl (fun hg => allT_of ⟨rfl, trivial⟩) rfl rfl rfl rfl rfl
  · exact ob_v rfl (fun hg => allT_of ⟨rfl, trivial⟩) (fun hg => av_assign rfl)
  have hr := Option.some.inj hr
  subst hr
  exact athen_norm (awc_ret (ret_q (l' := [(2, .bool ((decide (1 ≤ p0)) && (decide (p0 ≤ 13))))]) (wk_of hX [] 4 rfl rfl ⟨⟨_, rfl, cv0⟩, trivial⟩ trivial) rfl ⟨rfl, trivial⟩))
theorem fp15_runs {r : (List (Str × List Str × Int))} (hr : fp15 = some r) : RunsP Tryz.prog 15 [] [.agg (expl (.arr 13 Y2) r)] := by
  refine runs_w Tryz.func15 Tryz.ntmps15 rfl (rs := [.cell 0 44]) rfl rfl fun w0 X hX => ?_
  refine awc_seq ?_
  refine awc_region ?_
  refine awl_op (aop_alloc zero44 rfl ?_)
  refine awl_nil (athen_norm (awc_seq ?_))
  refine awc_region ?_
  refine awl_v (av_buildSlice (t := .str) (qs := [(0, [.str ([102, 114, 101, 101] : Str)]), (1, [.str ([115, 105, 110, 103, 108, 101] : Str)])]) (ys := [([102, 114, 101, 101] : Str), ([115, 105, 110, 103, 108, 101] : Str)]) bs41 rfl rfl rfl rfl rfl rfl rfl rfl) ?_
  refine awl_v (av_build (qs := [(0, [.str ([116, 104, 114, 101, 97, 100] : Str)]), (1, [.sl .str [([102, 114, 101, 101] : Str), ([115, 105, 110, 103, 108, 101] : Str)]]), (2, [.int .i64 2])]) (cs := [.str ([116, 104, 114, 101, 97, 100] : Str), .sl .str [([102, 114, 101, 101] : Str), ([115, 105, 110, 103, 108, 101] : Str)], .int .i64 2]) bt43 rfl rfl rfl) ?_
  refine awl_v (av_buildSlice (t := .str) (qs := [(0, [.str ([116, 114, 97, 110, 115, 105, 101, 110, 116] : Str)]), (1, [.str ([112, 101, 114, 115, 105, 115, 116, 101, 110, 116] : Str)])]) (ys := [([116, 114, 97, 110, 115, 105, 101, 110, 116] : Str), ([112, 101, 114, 115, 105, 115, 116, 101, 110, 116] : Str)]) bs41 rfl rfl rfl rfl rfl rfl rfl rfl) ?_
  refine awl_v (av_build (qs := [(0, [.str ([108, 105, 102, 101, 115, 112, 97, 110] : Str)]), (1, [.sl .str [([116, 114, 97, 110, 115, 105, 101, 110, 116] : Str), ([112, 101, 114, 115, 105, 115, 116, 101, 110, 116] : Str)]]), (2, [.int .i64 2])]) (cs := [.str ([108, 105, 102, 101, 115, 112, 97, 110] : Str), .sl .str [([116, 114, 97, 110, 115, 105, 101, 110, 116] : Str), ([112, 101, 114, 115, 105, 115, 116, 101, 110, 116] : Str)], .int .i64 2]) bt43 rfl rfl rfl) ?_
  refine awl_v (av_buildSlice (t := .str) (qs := [(0, [.str ([117, 110, 105, 113, 117, 101] : Str)]), (1, [.str ([109, 117, 108, 116, 105, 112, 108, 101] : Str)])]) (ys := [([117, 110, 105, 113, 117, 101] : Str), ([109, 117, 108, 116, 105, 112, 108, 101] : Str)]) bs41 rfl rfl rfl rfl rfl rfl rfl rfl) ?_
  refine awl_v (av_build (qs := [(0, [.str ([117, 110, 105, 113, 117, 101] : Str)]), (1, [.sl .str [([117, 110, 105, 113, 117, 101] : Str), ([109, 117, 108, 116, 105, 112, 108, 101] : Str)]]), (2, [.int .i64 2])]) (cs := [.str ([117, 110, 105, 113, 117, 101] : Str), .sl .str [([117, 110, 105, 113, 117, 101] : Str), ([109, 117, 108, 116, 105, 112, 108, 101] : Str)], .int .i64 2]) bt43 rfl rfl rfl) ?_
  refine awl_v (av_buildSlice (t := .str) (qs := [(0, [.str ([115, 121, 115, 116, 101, 109] : Str)]), (1, [.str ([117, 115, 101, 114] : Str)])]) (ys := [([115, 121, 115, 116, 101, 109] : Str), ([117, 115, 101, 114] : Str)]) bs41 rfl rfl rfl rfl rfl rfl rfl rfl) ?_
  refine awl_v (av_build (qs := [(0, [.str ([97, 115, 115, 105, 103, 110] : Str)]), (1, [.sl .str [([115, 121, 115, 116, 101, 109] : Str), ([117, 115, 101, 114] : Str)]]), (2, [.int .i64 2])]) (cs := [.str ([97, 115, 115, 105, 103, 110] : Str), .sl .str [([115, 121, 115, 116, 101, 109] : Str), ([117, 115, 101, 114] : Str)], .int .i64 2]) bt43 rfl rfl rfl) ?_
  refine awl_v (av_buildSlice (t := .str) (qs := [(0, [.str ([114, 101, 116, 97, 105, 110] : Str)]), (1, [.str ([102, 111, 114, 103, 101, 116] : Str)])]) (ys := [([114, 101, 116, 97, 105, 110] : Str), ([102, 111, 114, 103, 101, 116] : Str)]) bs41 rfl rfl rfl rfl rfl rfl rfl rfl) ?_
  refine awl_v (av_build (qs := [(0, [.str ([114, 101, 116, 97, 105, 110] : Str)]), (1, [.sl .str [([114, 101, 116, 97, 105, 110] : Str), ([102, 111, 114, 103, 101, 116] : Str)]]), (2, [.int .i64 2])]) (cs := [.str ([114, 101, 116, 97, 105, 110] : Str), .sl .str [([114, 101, 116, 97, 105, 110] : Str), ([102, 111, 114, 103, 101, 116] : Str)], .int .i64 2]) bt43 rfl rfl rfl) ?_
  refine awl_v (av_buildSlice (t := .str) (qs := [(0, [.str ([109, 97, 112] : Str)]), (1, [.str ([100, 101, 102, 97, 117, 108, 116] : Str)]), (2, [.str ([109, 97, 110, 97, 103, 101, 114] : Str)])]) (ys := [([109, 97, 112] : Str), ([100, 101, 102, 97, 117, 108, 116] : Str), ([109, 97, 110, 97, 103, 101, 114] : Str)]) bs41 rfl rfl rfl rfl rfl rfl rfl rfl) ?_
  refine awl_v (av_build (qs := [(0, [.str ([112, 114, 111, 99, 101, 115, 115] : Str)]), (1, [.sl .str [([109, 97, 112] : Str), ([100, 101, 102, 97, 117, 108, 116] : Str), ([109, 97, 110, 97, 103, 101, 114] : Str)]]), (2, [.int .i64 3])]) (cs := [.str ([112, 114, 111, 99, 101, 115, 115] : Str), .sl .str [([109, 97, 112] : Str), ([100, 101, 102, 97, 117, 108, 116] : Str), ([109, 97, 110, 97, 103, 101, 114] : Str)], .int .i64 3]) bt43 rfl rfl rfl) ?_
  refine awl_v (av_buildSlice (t := .str) (qs := [(0, [.str ([101, 120, 112, 108, 105, 99, 105, 116] : Str)]), (1, [.str ([105, 109, 112, 108, 105, 99, 105, 116] : Str)])]) (ys := [([101, 120, 112, 108, 105, 99, 105, 116] : Str), ([105, 109, 112, 108, 105, 99, 105, 116] : Str)]) bs41 rfl rfl rfl rfl rfl rfl rfl rfl) ?_
  refine awl_v (av_build (qs := [(0, [.str ([97, 99, 116, 105, 118, 97, 116, 101] : Str)]), (1, [.sl .str [([101, 120, 112, 108, 105, 99, 105, 116] : Str), ([105, 109, 112, 108, 105, 99, 105, 116] : Str)]]), (2, [.int .i64 2])]) (cs := [.str ([97, 99, 116, 105, 118, 97, 116, 101] : Str), .sl .str [([101, 120, 112, 108, 105, 99, 105, 116] : Str), ([105, 109, 112, 108, 105, 99, 105, 116] : Str)], .int .i64 2]) bt43 rfl rfl rfl) ?_
  refine awl_v (av_buildSlice (t := .str) (qs := [(0, [.str ([116, 114, 97, 110, 115, 112, 97, 114, 101, 110, 116] : Str)]), (1, [.str ([107, 101, 101, 112] : Str)]), (2, [.str ([110, 101, 118, 101, 114] : Str)])]) (ys := [([116, 114, 97, 110, 115, 112, 97, 114, 101, 110, 116] : Str), ([107, 101, 101, 112] : Str), ([110, 101, 118, 101, 114] : Str)]) bs41 rfl rfl rfl rfl rfl rfl rfl rfl) ?_
  refine awl_v (av_build (qs := [(0, [.str ([114, 101, 98, 105, 110, 100] : Str)]), (1, [.sl .str [([116, 114, 97, 110, 115, 112, 97, 114, 101, 110, 116] : Str), ([107, 101, 101, 112] : Str), ([110, 101, 118, 101, 114] : Str)]]), (2, [.int .i64 3])]) (cs := [.str ([114, 101, 98, 105, 110, 100] : Str), .sl .str [([116, 114, 97, 110, 115, 112, 97, 114, 101, 110, 116] : Str), ([107, 101, 101, 112] : Str), ([110, 101, 118, 101, 114] : Str)], .int .i64 3]) bt43 rfl rfl rfl) ?_
  refine awl_v (av_buildSlice (t := .str) (qs := [(0, [.str ([115, 101, 110, 116] : Str)]), (1, [.str ([110, 111, 110, 101] : Str)]), (2, [.str ([115, 101, 114, 118, 101, 114] : Str)]), (3, [.str ([100, 111, 110, 101] : Str)])]) (ys := [([115, 101, 110, 116] : Str), ([110, 111, 110, 101] : Str), ([115, 101, 114, 118, 101, 114] : Str), ([100, 111, 110, 101] : Str)]) bs41 rfl rfl rfl rfl rfl rfl rfl rfl) ?_
  refine awl_v (av_build (qs := [(0, [.str ([99, 101, 114, 116, 97, 105, 110, 116, 121] : Str)]), (1, [.sl .str [([115, 101, 110, 116] : Str), ([110, 111, 110, 101] : Str), ([115, 101, 114, 118, 101, 114] : Str), ([100, 111, 110, 101] : Str)]]), (2, [.int .i64 4])]) (cs := [.str ([99, 101, 114, 116, 97, 105, 110, 116, 121] : Str), .sl .str [([115, 101, 110, 116] : Str), ([110, 111, 110, 101] : Str), ([115, 101, 114, 118, 101, 114] : Str), ([100, 111, 110, 101] : Str)], .int .i64 4]) bt43 rfl rfl rfl) ?_
  refine awl_v (av_build (qs := [(0, [.str ([108, 105, 109, 105, 116] : Str)]), (1, [.nils]), (2, [.int .i64 1000000])]) (cs := [.str ([108, 105, 109, 105, 116] : Str), .nils, .int .i64 1000000]) bt43 rfl rfl rfl) ?_
  refine awl_wk (wk_agg (t := 19) (cs' := [.str ([108, 105, 109, 105, 116] : Str), .sl .str ([] : List Str), .int .i64 1000000]) rfl ⟨cv0, cv2, cv0, trivial⟩) ?_
  refine awl_v (av_buildSlice (t := .str) (qs := [(0, [.str ([100, 105, 114, 101, 99, 116] : Str)]), (1, [.str ([102, 111, 114, 119, 97, 114, 100] : Str)]), (2, [.str ([115, 116, 111, 114, 101] : Str)])]) (ys := [([100, 105, 114, 101, 99, 116] : Str), ([102, 111, 114, 119, 97, 114, 100] : Str), ([115, 116, 111, 114, 101] : Str)]) bs41 rfl rfl rfl rfl rfl rfl rfl rfl) ?_
  refine awl_v (av_build (qs := [(0, [.str ([114, 111, 117, 116, 101] : Str)]), (1, [.sl .str [([100, 105, 114, 101, 99, 116] : Str), ([102, 111, 114, 119, 97, 114, 100] : Str), ([115, 116, 111, 114, 101] : Str)]]), (2, [.int .i64 3])]) (cs := [.str ([114, 111, 117, 116, 101] : Str), .sl .str [([100, 105, 114, 101, 99, 116] : Str), ([102, 111, 114, 119, 97, 114, 100] : Str), ([115, 116, 111, 114, 101] : Str)], .int .i64 3]) bt43 rfl rfl rfl) ?_
  refine awl_v (av_build (qs := [(0, [.str ([112, 114, 105, 111, 114, 105, 116, 121] : Str)]), (1, [.nils]), (2, [.int .i64 100])]) (cs := [.str ([112, 114, 105, 111, 114, 105, 116, 121] : Str), .nils, .int .i64 100]) bt43 rfl rfl rfl) ?_
  refine awl_wk (wk_agg (t := 22) (cs' := [.str ([112, 114, 105, 111, 114, 105, 116, 121] : Str), .sl .str ([] : List Str), .int .i64 100]) rfl ⟨cv0, cv2, cv0, trivial⟩) ?_
  refine awl_v (av_buildSlice (t := .str) (qs := [(0, [.str ([97, 110, 121] : Str)]), (1, [.str ([116, 105, 109, 101] : Str)]), (2, [.str ([112, 114, 105, 111, 114, 105, 116, 121] : Str)]), (3, [.str ([100, 101, 97, 100, 108, 105, 110, 101] : Str)])]) (ys := [([97, 110, 121] : Str), ([116, 105, 109, 101] : Str), ([112, 114, 105, 111, 114, 105, 116, 121] : Str), ([100, 101, 97, 100, 108, 105, 110, 101] : Str)]) bs41 rfl rfl rfl rfl rfl rfl rfl rfl) ?_
  refine awl_v (av_build (qs := [(0, [.str ([111, 114, 100, 101, 114] : Str)]), (1, [.sl .str [([97, 110, 121] : Str), ([116, 105, 109, 101] : Str), ([112, 114, 105, 111, 114, 105, 116, 121] : Str), ([100, 101, 97, 100, 108, 105, 110, 101] : Str)]]), (2, [.int .i64 4])]) (cs := [.str ([111, 114, 100, 101, 114] : Str), .sl .str [([97, 110, 121] : Str), ([116, 105, 109, 101] : Str), ([112, 114, 105, 111, 114, 105, 116, 121] : Str), ([100, 101, 97, 100, 108, 105, 110, 101] : Str)], .int .i64 4]) bt43 rfl rfl rfl) ?_
  refine awl_v (av_build (qs := [(0, [.str ([116, 104, 114, 101, 97, 100] : Str), .sl .str [([102, 114, 101, 101] : Str), ([115, 105, 110, 103, 108, 101] : Str)], .int .i64 2]), (1, [.str ([108, 105, 102, 101, 115, 112, 97, 110] : Str), .sl .str [([116, 114, 97, 110, 115, 105, 101, 110, 116] : Str), ([112, 101, 114, 115, 105, 115, 116, 101, 110, 116] : Str)], .int .i64 2]), (2, [.str ([117, 110, 105, 113, 117, 101] : Str), .sl .str [([117, 110, 105, 113, 117, 101] : Str), ([109, 117, 108, 116, 105, 112, 108, 101] : Str)], .int .i64 2]), (3, [.str ([97, 115, 115, 105, 103, 110] : Str), .sl .str [([115, 121, 115, 116, 101, 109] : Str), ([117, 115, 101, 114] : Str)], .int .i64 2]), (4, [.str ([114, 101, 116, 97, 105, 110] : Str), .sl .str [([114, 101, 116, 97, 105, 110] : Str), ([102, 111, 114, 103, 101, 116] : Str)], .int .i64 2]), (5, [.str ([112, 114, 111, 99, 101, 115, 115] : Str), .sl .str [([109, 97, 112] : Str), ([100, 101, 102, 97, 117, 108, 116] : Str), ([109, 97, 110, 97, 103, 101, 114] : Str)], .int .i64 3]), (6, [.str ([97, 99, 116, 105, 118, 97, 116, 101] : Str), .sl .str [([101, 120, 112, 108, 105, 99, 105, 116] : Str), ([105, 109, 112, 108, 105, 99, 105, 116] : Str)], .int .i64 2]), (7, [.str ([114, 101, 98, 105, 110, 100] : Str), .sl .str [([116, 114, 97, 110, 115, 112, 97, 114, 101, 110, 116] : Str), ([107, 101, 101, 112] : Str), ([110, 101, 118, 101, 114] : Str)], .int .i64 3]), (8, [.str ([99, 101, 114, 116, 97, 105, 110, 116, 121] : Str), .sl .str [([115, 101, 110, 116] : Str), ([110, 111, 110, 101] : Str), ([115, 101, 114, 118, 101, 114] : Str), ([100, 111, 110, 101] : Str)], .int .i64 4]), (9, [.str ([108, 105, 109, 105, 116] : Str), .sl .str ([] : List Str), .int .i64 1000000]), (10, [.str ([114, 111, 117, 116, 101] : Str), .sl .str [([100, 105, 114, 101, 99, 116] : Str), ([102, 111, 114, 119, 97, 114, 100] : Str), ([115, 116, 111, 114, 101] : Str)], .int .i64 3]), (11, [.str ([112, 114, 105, 111, 114, 105, 116, 121] : Str), .sl .str ([] : List Str), .int .i64 100]), (12, [.str ([111, 114, 100, 101, 114] : Str), .sl .str [([97, 110, 121] : Str), ([116, 105, 109, 101] : Str), ([112, 114, 105, 111, 114, 105, 116, 121] : Str), ([100, 101, 97, 100, 108, 105, 110, 101] : Str)], .int .i64 4])]) (cs := expl (.arr 13 Y2) [(([116, 104, 114, 101, 97, 100] : Str), [([102, 114, 101, 101] : Str), ([115, 105, 110, 103, 108, 101] : Str)], 2), (([108, 105, 102, 101, 115, 112, 97, 110] : Str), [([116, 114, 97, 110, 115, 105, 101, 110, 116] : Str), ([112, 101, 114, 115, 105, 115, 116, 101, 110, 116] : Str)], 2), (([117, 110, 105, 113, 117, 101] : Str), [([117, 110, 105, 113, 117, 101] : Str), ([109, 117, 108, 116, 105, 112, 108, 101] : Str)], 2), (([97, 115, 115, 105, 103, 110] : Str), [([115, 121, 115, 116, 101, 109] : Str), ([117, 115, 101, 114] : Str)], 2), (([114, 101, 116, 97, 105, 110] : Str), [([114, 101, 116, 97, 105, 110] : Str), ([102, 111, 114, 103, 101, 116] : Str)], 2), (([112, 114, 111, 99, 101, 115, 115] : Str), [([109, 97, 112] : Str), ([100, 101, 102, 97, 117, 108, 116] : Str), ([109, 97, 110, 97, 103, 101, 114] : Str)], 3), (([97, 99, 116, 105, 118, 97, 116, 101] : Str), [([101, 120, 112, 108, 105, 99, 105, 116] : Str), ([105, 109, 112, 108, 105, 99, 105, 116] : Str)], 2), (([114, 101, 98, 105, 110, 100] : Str), [([116, 114, 97, 110, 115, 112, 97, 114, 101, 110, 116] : Str), ([107, 101, 101, 112] : Str), ([110, 101, 118, 101, 114] : Str)], 3), (([99, 101, 114, 116, 97, 105, 110, 116, 121] : Str), [([115, 101, 110, 116] : Str), ([110, 111, 110, 101] : Str), ([115, 101, 114, 118, 101, 114] : Str), ([100, 111, 110, 101] : Str)], 4), (([108, 105, 109, 105, 116] : Str), ([] : List Str), 1000000), (([114, 111, 117, 116, 101] : Str), [([100, 105, 114, 101, 99, 116] : Str), ([102, 111, 114, 119, 97, 114, 100] : Str), ([115, 116, 111, 114, 101] : Str)], 3), (([112, 114, 105, 111, 114, 105, 116, 121] : Str), ([] : List Str), 100), (([111, 114, 100, 101, 114] : Str), [([97, 110, 121] : Str), ([116, 105, 109, 101] : Str), ([112, 114, 105, 111, 114, 105, 116, 121] : Str), ([100, 101, 97, 100, 108, 105, 110, 101] : Str)], 4)]) bt44 rfl rfl rfl) ?_
  refine awl_op (aop_store (cs' := expl (.arr 13 Y2) [(([116, 104, 114, 101, 97, 100] : Str), [([102, 114, 101, 101] : Str), ([115, 105, 110, 103, 108, 101] : Str)], 2), (([108, 105, 102, 101, 115, 112, 97, 110] : Str), [([116, 114, 97, 110, 115, 105, 101, 110, 116] : Str), ([112, 101, 114, 115, 105, 115, 116, 101, 110, 116] : Str)], 2), (([117, 110, 105, 113, 117, 101] : Str), [([117, 110, 105, 113, 117, 101] : Str), ([109, 117, 108, 116, 105, 112, 108, 101] : Str)], 2), (([97, 115, 115, 105, 103, 110] : Str), [([115, 121, 115, 116, 101, 109] : Str), ([117, 115, 101, 114] : Str)], 2), (([114, 101, 116, 97, 105, 110] : Str), [([114, 101, 116, 97, 105, 110] : Str), ([102, 111, 114, 103, 101, 116] : Str)], 2), (([112, 114, 111, 99, 101, 115, 115] : Str), [([109, 97, 112] : Str), ([100, 101, 102, 97, 117, 108, 116] : Str), ([109, 97, 110, 97, 103, 101, 114] : Str)], 3), (([97, 99, 116, 105, 118, 97, 116, 101] : Str), [([101, 120, 112, 108, 105, 99, 105, 116] : Str), ([105, 109, 112, 108, 105, 99, 105, 116] : Str)], 2), (([114, 101, 98, 105, 110, 100] : Str), [([116, 114, 97, 110, 115, 112, 97, 114, 101, 110, 116] : Str), ([107, 101, 101, 112] : Str), ([110, 101, 118, 101, 114] : Str)], 3), (([99, 101, 114, 116, 97, 105, 110, 116, 121] : Str), [([115, 101, 110, 116] : Str), ([110, 111, 110, 101] : Str), ([115, 101, 114, 118, 101, 114] : Str), ([100, 111, 110, 101] : Str)], 4), (([108, 105, 109, 105, 116] : Str), ([] : List Str), 1000000), (([114, 111, 117, 116, 101] : Str), [([100, 105, 114, 101, 99, 116] : Str), ([102, 111, 114, 119, 97, 114, 100] : Str), ([115, 116, 111, 114, 101] : Str)], 3), (([112, 114, 105, 111, 114, 105, 116, 121] : Str), ([] : List Str), 100), (([111, 114, 100, 101, 114] : Str), [([97, 110, 121] : Str), ([116, 105, 109, 101] : Str), ([112, 114, 105, 111, 114, 105, 116, 121] : Str), ([100, 101, 97, 100, 108, 105, 110, 101] : Str)], 4)]) sz44 rfl rfl rfl rfl (explG_beq rfl) rfl (over_full rfl) ?_)
  have hr := Option.some.inj hr
  subst hr
  exact awl_nil (athen_norm (awc_ret (ret_q (l' := [(0, .rp (expl (.arr 13 Y2) [(([116, 104, 114, 101, 97, 100] : Str), [([102, 114, 101, 101] : Str), ([115, 105, 110, 103, 108, 101] : Str)], 2), (([108, 105, 102, 101, 115, 112, 97, 110] : Str), [([116, 114, 97, 110, 115, 105, 101, 110, 116] : Str), ([112, 101, 114, 115, 105, 115, 116, 101, 110, 116] : Str)], 2), (([117, 110, 105, 113, 117, 101] : Str), [([117, 110, 105, 113, 117, 101] : Str), ([109, 117, 108, 116, 105, 112, 108, 101] : Str)], 2), (([97, 115, 115, 105, 103, 110] : Str), [([115, 121, 115, 116, 101, 109] : Str), ([117, 115, 101, 114] : Str)], 2), (([114, 101, 116, 97, 105, 110] : Str), [([114, 101, 116, 97, 105, 110] : Str), ([102, 111, 114, 103, 101, 116] : Str)], 2), (([112, 114, 111, 99, 101, 115, 115] : Str), [([109, 97, 112] : Str), ([100, 101, 102, 97, 117, 108, 116] : Str), ([109, 97, 110, 97, 103, 101, 114] : Str)], 3), (([97, 99, 116, 105, 118, 97, 116, 101] : Str), [([101, 120, 112, 108, 105, 99, 105, 116] : Str), ([105, 109, 112, 108, 105, 99, 105, 116] : Str)], 2), (([114, 101, 98, 105, 110, 100] : Str), [([116, 114, 97, 110, 115, 112, 97, 114, 101, 110, 116] : Str), ([107, 101, 101, 112] : Str), ([110, 101, 118, 101, 114] : Str)], 3), (([99, 101, 114, 116, 97, 105, 110, 116, 121] : Str), [([115, 101, 110, 116] : Str), ([110, 111, 110, 101] : Str), ([115, 101, 114, 118, 101, 114] : Str), ([100, 111, 110, 101] : Str)], 4), (([108, 105, 109, 105, 116] : Str), ([] : List Str), 1000000), (([114, 111, 117, 116, 101] : Str), [([100, 105, 114, 101, 99, 116] : Str), ([102, 111, 114, 119, 97, 114, 100] : Str), ([115, 116, 111, 114, 101] : Str)], 3), (([112, 114, 105, 111, 114, 105, 116, 121] : Str), ([] : List Str), 100), (([111, 114, 100, 101, 114] : Str), [([97, 110, 121] : Str), ([116, 105, 109, 101] : Str), ([112, 114, 105, 111, 114, 105, 116, 121] : Str), ([100, 101, 97, 100, 108, 105, 110, 101] : Str)], 4)]))]) (wk_of hX [] 4 rfl rfl ⟨⟨_, rfl, cv0⟩, trivial⟩ trivial) rfl ⟨(.inr ⟨_, 39, rfl, ts44, (congrArg AV.agg (explG_take (t := (.arr 13 Y2)) rfl).symm), (explG_ble0 (t := (.arr 13 Y2)) rfl)⟩), trivial⟩)))
theorem fp52_runs {p0 : Int} {r : Int} (hr : fp52 p0 = some r) : RunsP Tryz.prog 52 [.int .i64 p0] [.int .i64 r] := by
  refine runs_w Tryz.func52 Tryz.ntmps52 rfl (rs := [.tmp 2]) rfl rfl fun w0 X hX => ?_
  refine awc_seq ?_
  refine awc_region ?_
  refine awl_v (av_assign rfl) ?_
  refine awl_nil (athen_norm (awc_seq ?_))
  refine awc_region ?_
  obtain ⟨x1, e2, hr⟩ := bnd_some hr
  refine awl_v (av_call (fp15_runs e2).x ent15 rfl rfl) ?_
  refine awl_v (av_move rfl) ?_
  refine awl_v (av_sub rfl rfl) ?_
  obtain ⟨x3, e4, hr⟩ := bnd_some hr
  refine awl_v (av_index_arr (e := Y2) und44 ts43 rfl rfl e4) ?_
  refine awl_v (av_field fv43_1 rfl rfl) ?_
  refine awl_v (av_len_sl (t := .str) rfl rfl und41 rfl) ?_
  refine awl_v (av_min rfl rfl rfl) ?_
  refine awl_v (av_assign rfl) ?_
  have hr := Option.some.inj hr
  subst hr
  exact awl_nil (athen_norm (awc_ret (ret_q (l' := [(2, .int .i64 (min (List.length x3.2.1 : Int) 1))]) (wk_of hX [] 4 rfl rfl ⟨⟨_, rfl, cv0⟩, trivial⟩ trivial) rfl ⟨rfl, trivial⟩)))
theorem fp36_runs {p0 : Int × Int} {r : Bool} (hr : fp36 p0 = some r) : RunsP Tryz.prog 36 [.agg [.int .i64 p0.1, .int .i64 p0.2]] [.bool r] := by
  refine runs_w Tryz.func36 Tryz.ntmps36 rfl (rs := [.tmp 2]) rfl rfl fun w0 X hX => ?_
  refine awc_seq ?_
  refine awc_region ?_
  refine awl_op (aop_box rfl rfl ?_)
  refine awl_v (av_assign rfl) ?_
  refine awl_nil (athen_norm (awc_seq ?_))
  obtain ⟨x1, e2, hr⟩ := bnd_some hr
  obtain ⟨h3, hr⟩ := chk_some hr
  obtain ⟨h4, hr⟩ := chk_some hr
  obtain ⟨h5, hr⟩ := chk_some hr
  refine awc_draw mixed [1] [(true, .ptr 0 0), (true, .int .i64 p0.1), (true, .bool x1), (true, .bool x1), (x1, .ptr 0 1), (x1, .int .i64 p0.2), (x1, .ptr 0 0), (x1, .int .i64 p0.1), (x1, .int .i64 ((fp52 p0.1).getD default)), (x1, .bool (decide (((fp52 p0.1).getD default) ≤ p0.2))), (true, .bool (x1 && (decide (((fp52 p0.1).getD default) ≤ p0.2)))), (true, .bool (x1 && (decide (((fp52 p0.1).getD default) ≤ p0.2)))), (x1 && (decide (((fp52 p0.1).getD default) ≤ p0.2)), .ptr 0 1), (x1 && (decide (((fp52 p0.1).getD default) ≤ p0.2)), .int .i64 p0.2), (x1 && (decide (((fp52 p0.1).getD default) ≤ p0.2)), .agg (expl (.arr 13 Y2) ((fp15).getD default))), (x1 && (decide (((fp52 p0.1).getD default) ≤ p0.2)), .ptr 0 0), (x1 && (decide (((fp52 p0.1).getD default) ≤ p0.2)), .int .i64 p0.1), (x1 && (decide (((fp52 p0.1).getD default) ≤ p0.2)), .int .i64 (w64 (p0.1 - 1))), (x1 && (decide (((fp52 p0.1).getD default) ≤ p0.2)), .agg [.str ((((aig 13 ((fp15).getD default) (w64 (p0.1 - 1))).getD default)).1), .sl .str (((((aig 13 ((fp15).getD default) (w64 (p0.1 - 1))).getD default)).2).1), .int .i64 (((((aig 13 ((fp15).getD default) (w64 (p0.1 - 1))).getD default)).2).2)]), (x1 && (decide (((fp52 p0.1).getD default) ≤ p0.2)), .int .i64 (((((aig 13 ((fp15).getD default) (w64 (p0.1 - 1))).getD default)).2).2)), (x1 && (decide (((fp52 p0.1).getD default) ≤ p0.2)), .bool (decide (p0.2 ≤ (((((aig 13 ((fp15).getD default) (w64 (p0.1 - 1))).getD default)).2).2)))), (true, .bool ((x1 && (decide (((fp52 p0.1).getD default) ≤ p0.2))) && (decide (p0.2 ≤ (((((aig 13 ((fp15).getD default) (w64 (p0.1 - 1))).getD default)).2).2))))), (true, .bool ((x1 && (decide (((fp52 p0.1).getD default) ≤ p0.2))) && (decide (p0.2 ≤ (((((aig 13 ((fp15).getD default) (w64 (p0.1 - 1))).getD default)).2).2)))))] [[], [0], [1], [2], [3], [4, 3], [3], [6, 3], [7, 3], [5, 8, 3], [9, 3], [10], [11], [12, 11], [11], [11], [15, 11], [16, 11], [14, 17, 11], [18, 11], [13, 19, 11], [20, 11], [21]] [22] rfl rfl rfl rfl rfl ⟨?_, ?_, ?_, ?_, ?_, ?_, ?_, ?_, ?_, ?_, ?_, ?_, ?_, ?_, ?_, ?_, ?_, ?_, ?_, ?_, ?_, ?_, ?_, trivial⟩ (allT_of ⟨rfl, trivial⟩) ?_
  · exact ob_v rfl (fun hg => allT_of trivial) (fun hg => av_fa_ptr fa37_0 rfl rfl)
  · exact ob_v rfl (fun hg => allT_of ⟨rfl, trivial⟩) (fun hg => av_load_ptr ts3 rfl rfl rfl)
  · exact ob_v rfl (fun hg => allT_of ⟨rfl, trivial⟩) (fun hg => av_call (fp57_runs e2).x ent57 rfl rfl)
  · exact ob_v rfl (fun hg => allT_of ⟨rfl, trivial⟩) (fun hg => av_move rfl)
  · exact ob_v ⟨rfl, rfl, rfl, _, rfl, rfl⟩ (fun hg => allT_of ⟨rfl, trivial⟩) (fun hg => av_fa_ptr fa37_1 rfl rfl)
  · exact ob_v ⟨rfl, rfl, rfl, _, rfl, rfl⟩ (fun hg => allT_of ⟨hg, rfl, trivial⟩) (fun hg => av_load_ptr ts3 rfl rfl rfl)
  · exact ob_v ⟨rfl, rfl, rfl, _, rfl, rfl⟩ (fun hg => allT_of ⟨rfl, trivial⟩) (fun hg => av_fa_ptr fa37_0 rfl rfl)
  · exact ob_v ⟨rfl, rfl, rfl, _, rfl, rfl⟩ (fun hg => allT_of ⟨hg, rfl, trivial⟩) (fun hg => av_load_ptr ts3 rfl rfl rfl)
  · exact ob_v ⟨rfl, rfl, rfl, _, rfl, rfl⟩ (fun hg => allT_of ⟨hg, rfl, trivial⟩) (fun hg => av_call (fp52_runs (get_g h3 hg)).x ent52 rfl rfl)
  · exact ob_v ⟨rfl, rfl, rfl, _, rfl, rfl⟩ (fun hg => allT_of ⟨hg, hg, rfl, trivial⟩) (fun hg => av_geq rfl rfl)
  · exact ob_pick (b := true) (p := x1) (q := decide (((fp52 p0.1).getD default) ≤ p0.2)) rfl rfl rfl (fun hg => allT_of ⟨rfl, trivial⟩) rfl rfl rfl rfl rfl
  · exact ob_v rfl (fun hg => allT_of ⟨rfl, trivial⟩) (fun hg => av_move rfl)
  · exact ob_v ⟨rfl, rfl, rfl, _, rfl, rfl⟩ (fun hg => allT_of ⟨rfl, trivial⟩) (fun hg => av_fa_ptr fa37_1 rfl rfl)
  · exact ob_v ⟨rfl, rfl, rfl, _, rfl, rfl⟩ (fun hg => allT_of ⟨hg, rfl, trivial⟩) (fun hg => av_load_ptr ts3 rfl rfl rfl)
  · exact ob_v ⟨rfl, rfl, rfl, _, rfl, rfl⟩ (fun hg => allT_of ⟨rfl, trivial⟩) (fun hg => av_call (fp15_runs (get_g h4 hg)).x ent15 rfl rfl)
  · exact ob_v ⟨rfl, rfl, rfl, _, rfl, rfl⟩ (fun hg => allT_of ⟨rfl, trivial⟩) (fun hg => av_fa_ptr fa37_0 rfl rfl)
  · exact ob_v ⟨rfl, rfl, rfl, _, rfl, rfl⟩ (fun hg => allT_of ⟨hg, rfl, trivial⟩) (fun hg => av_load_ptr ts3 rfl rfl rfl)
  · exact ob_v ⟨rfl, rfl, rfl, _, rfl, rfl⟩ (fun hg => allT_of ⟨hg, rfl, trivial⟩) (fun hg => av_sub rfl rfl)
  · exact ob_v ⟨rfl, rfl, rfl, _, rfl, rfl⟩ (fun hg => allT_of ⟨hg, hg, rfl, trivial⟩) (fun hg => av_index_arr (e := Y2) und44 ts43 rfl rfl (get_g h5 hg))
  · exact ob_v ⟨rfl, rfl, rfl, _, rfl, rfl⟩ (fun hg => allT_of ⟨hg, rfl, trivial⟩) (fun hg => av_field fv43_2 rfl rfl)
  · exact ob_v ⟨rfl, rfl, rfl, _, rfl, rfl⟩ (fun hg => allT_of ⟨hg, hg, rfl, trivial⟩) (fun hg => av_leq rfl rfl)
  · exact ob_pick (b := true) (p := x1 && (decide (((fp52 p0.1).getD default) ≤ p0.2))) (q := decide (p0.2 ≤ (((((aig 13 ((fp15).getD default) (w64 (p0.1 - 1))).getD default)).2).2))) rfl rfl rfl (fun hg => allT_of ⟨rfl, trivial⟩) rfl rfl rfl rfl rfl
  · exact ob_v rfl (fun hg => allT_of ⟨rfl, trivial⟩) (fun hg => av_assign rfl)
  have hr := Option.some.inj hr
  subst hr
  exact athen_norm (awc_ret (ret_q (l' := [(2, .bool ((x1 && (decide (((fp52 p0.1).getD default) ≤ p0.2))) && (decide (p0.2 ≤ (((((aig 13 ((fp15).getD default) (w64 (p0.1 - 1))).getD default)).2).2)))))]) (wk_of hX [] 4 rfl rfl ⟨⟨_, rfl, cv0⟩, trivial⟩ trivial) rfl ⟨rfl, trivial⟩))
theorem fp14_runs {p0 : List (Int × Int)} {r : Bool} (hr : fp14 p0 = some r) : RunsP Tryz.prog 14 [.sl Y1 p0] [.bool r] := by
  refine runs_w Tryz.func14 Tryz.ntmps14 rfl (rs := [.tmp 2]) rfl rfl fun w0 X hX => ?_
  refine awc_seq ?_
  refine awc_region ?_
  refine awl_v (av_assign rfl) ?_
  refine awl_nil (athen_norm (awc_seq (awc_seq ?_)))
  refine awc_region ?_
  refine awl_v (av_move rfl) ?_
  refine awl_v (av_len_sl (t := Y1) rfl rfl und22 rfl) ?_
  refine awl_v (av_move rfl) ?_
  refine awl_nil (athen_norm (awc_block ?_))
  obtain ⟨o3, e4, hr⟩ := bnd_some hr
  refine awc_len (t := 0) rfl (fun hl => ?_)
  refine awc_range (S := Unit) (R := Unit) (List.length p0 : Int) (fp14_b0 p0) (fun p => match p with | (i1, ()) => (⟨[(0, .sl Y1 p0), (2, .bool false), (5, .sl Y1 p0), (6, .int .i64 (List.length p0 : Int)), (7, .int .i64 i1)], [], 0⟩ : AS)) (fun o e st => match o with | .inl () => e = .exit 0 ∧ Wk X st ⟨[(2, .bool false)], [], 0⟩ | .inr () => e = .ret ∧ Wk X st ⟨[(2, .bool false)], [], 0⟩) (len_ok hl) e4 (wk_of hX [] 4 rfl rfl ⟨⟨_, rfl, cv0⟩, ⟨_, rfl, cv0⟩, ⟨_, rfl, cv0⟩, ⟨_, rfl, cv0⟩, ⟨_, rfl, cv0⟩, trivial⟩ trivial) ?_ ?_
  · intro e st hx
    rcases o3 with _ | _
    · obtain ⟨rfl, hw⟩ := hx
      refine ablock_here (athen_norm ((awc_wk hw) (awc_seq ?_)))
      refine awc_region ?_
      refine awl_v (av_assign rfl) ?_
      have hr := Option.some.inj hr
      subst hr
      exact awl_nil (athen_norm (awc_ret (ret_q (l' := [(2, .bool true)]) (wk_of hX [] 4 rfl rfl ⟨⟨_, rfl, cv0⟩, trivial⟩ trivial) rfl ⟨rfl, trivial⟩)))
    · obtain ⟨rfl, hw⟩ := hx
      have hr := Option.some.inj hr
      subst hr
      exact ablock_ret (athen_ret (ret_q (l' := [(2, .bool false)]) (Wk.trans hw (wk_of hX [] 4 rfl rfl ⟨⟨_, rfl, cv0⟩, trivial⟩ trivial)) rfl ⟨rfl, trivial⟩))
  · rintro i1 _ o ho
    refine awc_seq ?_
    refine awc_region ?_
    refine awl_v (av_lss rfl rfl) ?_
    refine awl_nil (athen_norm (awc_seq ?_))
    refine awc_cond (b := decide (i1 < (List.length p0 : Int))) rfl (fun hc5 => ?_) (fun hc5 => ?_)
    · obtain ⟨q, hr, rfl⟩ := rb_t hc5 ho
      refine awc_skip (athen_norm (awc_seq (awc_block (awc_seq ?_))))
      refine awc_region ?_
      refine awl_v (av_move rfl) ?_
      obtain ⟨x6, e7, hr⟩ := bnd_some hr
      refine awl_v (av_ia_sl (t := Y1) (e := x6) und22 sz37 rfl rfl e7) ?_
      refine awl_v (av_load_rpN ts37 rfl rfl rfl) ?_
      refine awl_op (aop_alloc zero37 rfl ?_)
      refine awl_v (av_assign rfl) ?_
      refine awl_op (aop_store sz37 rfl rfl rfl rfl rfl rfl rfl ?_)
      refine awl_nil (athen_norm (awc_seq ?_))
      obtain ⟨x8, e9, hr⟩ := bnd_some hr
      obtain ⟨h10, hr⟩ := chk_some hr
      refine awc_draw mixed [0, 2, 5, 6, 7, 4, 3] [(true, .agg [.int .i64 x6.1, .int .i64 x6.2]), (true, .bool x8), (true, .bool (!x8)), (true, .bool (!x8)), (!(!x8), .int .i64 i1), (!(!x8), .bool (decide (0 < i1))), (!(!x8), .bool (decide (0 < i1))), ((!(!x8)) && (decide (0 < i1)), .ptr 0 0), ((!(!x8)) && (decide (0 < i1)), .int .i64 x6.1), ((!(!x8)) && (decide (0 < i1)), .sl Y1 p0), ((!(!x8)) && (decide (0 < i1)), .int .i64 i1), ((!(!x8)) && (decide (0 < i1)), .int .i64 (w64 (i1 - 1))), ((!(!x8)) && (decide (0 < i1)), .rp [.int .i64 ((((ix p0 (w64 (i1 - 1))).getD default)).1), .int .i64 ((((ix p0 (w64 (i1 - 1))).getD default)).2)]), ((!(!x8)) && (decide (0 < i1)), .rp [.int .i64 ((((ix p0 (w64 (i1 - 1))).getD default)).1), .int .i64 ((((ix p0 (w64 (i1 - 1))).getD default)).2)]), ((!(!x8)) && (decide (0 < i1)), .int .i64 ((((ix p0 (w64 (i1 - 1))).getD default)).1)), ((!(!x8)) && (decide (0 < i1)), .bool (decide (x6.1 ≤ ((((ix p0 (w64 (i1 - 1))).getD default)).1)))), (!(!x8), .bool ((decide (0 < i1)) && (decide (x6.1 ≤ ((((ix p0 (w64 (i1 - 1))).getD default)).1))))), (true, .bool ((!x8) || ((decide (0 < i1)) && (decide (x6.1 ≤ ((((ix p0 (w64 (i1 - 1))).getD default)).1))))))] [[], [0], [1], [2], [3], [4, 3], [5, 3], [6], [7, 6], [6], [6], [10, 6], [9, 11, 6], [12, 6], [13, 6], [8, 14, 6], [15, 6, 3], [16, 3]] [17] rfl rfl rfl rfl rfl ⟨?_, ?_, ?_, ?_, ?_, ?_, ?_, ?_, ?_, ?_, ?_, ?_, ?_, ?_, ?_, ?_, ?_, ?_, trivial⟩ (allT_of ⟨rfl, trivial⟩) ?_
      · exact ob_v rfl (fun hg => allT_of trivial) (fun hg => av_load_ptrN ts37 rfl rfl rfl rfl)
      · exact ob_v rfl (fun hg => allT_of ⟨rfl, trivial⟩) (fun hg => av_call (fp36_runs e9).x ent36 rfl rfl)
      · exact ob_v rfl (fun hg => allT_of ⟨rfl, trivial⟩) (fun hg => av_not rfl)
      · exact ob_v rfl (fun hg => allT_of ⟨rfl, trivial⟩) (fun hg => av_move rfl)
      · exact ob_v ⟨rfl, rfl, rfl, _, rfl, rfl⟩ (fun hg => allT_of ⟨rfl, trivial⟩) (fun hg => av_move rfl)
      · exact ob_v ⟨rfl, rfl, rfl, _, rfl, rfl⟩ (fun hg => allT_of ⟨hg, rfl, trivial⟩) (fun hg => av_gtr rfl rfl)
      · exact ob_v ⟨rfl, rfl, rfl, _, rfl, rfl⟩ (fun hg => allT_of ⟨hg, rfl, trivial⟩) (fun hg => av_move rfl)
      · exact ob_v ⟨rfl, rfl, rfl, _, rfl, rfl⟩ (fun hg => allT_of ⟨(and_l hg), trivial⟩) (fun hg => av_fa_ptr fa37_0 rfl rfl)
      · exact ob_v ⟨rfl, rfl, rfl, _, rfl, rfl⟩ (fun hg => allT_of ⟨hg, (and_l hg), trivial⟩) (fun hg => av_load_ptr ts3 rfl rfl rfl)
      · exact ob_v ⟨rfl, rfl, rfl, _, rfl, rfl⟩ (fun hg => allT_of ⟨(and_l hg), trivial⟩) (fun hg => av_move rfl)
      · exact ob_v ⟨rfl, rfl, rfl, _, rfl, rfl⟩ (fun hg => allT_of ⟨(and_l hg), trivial⟩) (fun hg => av_move rfl)
      · exact ob_v ⟨rfl, rfl, rfl, _, rfl, rfl⟩ (fun hg => allT_of ⟨hg, (and_l hg), trivial⟩) (fun hg => av_sub rfl rfl)
      · exact ob_v ⟨rfl, rfl, rfl, _, rfl, rfl⟩ (fun hg => allT_of ⟨hg, hg, (and_l hg), trivial⟩) (fun hg => av_ia_sl (t := Y1) (e := ((ix p0 (w64 (i1 - 1))).getD default)) und22 sz37 rfl rfl (get_g h10 hg))
      · exact ob_v ⟨rfl, rfl, rfl, _, rfl, rfl⟩ (fun hg => allT_of ⟨hg, (and_l hg), trivial⟩) (fun hg => av_fa_rp fa37_0 rfl rfl)
      · exact ob_v ⟨rfl, rfl, rfl, _, rfl, rfl⟩ (fun hg => allT_of ⟨hg, (and_l hg), trivial⟩) (fun hg => av_load_rp ts3 rfl)
      · exact ob_v ⟨rfl, rfl, rfl, _, rfl, rfl⟩ (fun hg => allT_of ⟨hg, hg, (and_l hg), trivial⟩) (fun hg => av_leq rfl rfl)
      · exact ob_pick (b := true) (p := decide (0 < i1)) (q := decide (x6.1 ≤ ((((ix p0 (w64 (i1 - 1))).getD default)).1))) ⟨rfl, rfl, rfl, _, rfl, rfl⟩ rfl rfl (fun hg => allT_of ⟨hg, rfl, trivial⟩) rfl rfl rfl rfl rfl
      · exact ob_pick (b := false) (p := !x8) (q := (decide (0 < i1)) && (decide (x6.1 ≤ ((((ix p0 (w64 (i1 - 1))).getD default)).1)))) rfl rfl rfl (fun hg => allT_of ⟨rfl, trivial⟩) rfl rfl rfl rfl rfl
      refine athen_norm ?_
      refine awc_cond (b := (!x8) || ((decide (0 < i1)) && (decide (x6.1 ≤ ((((ix p0 (w64 (i1 - 1))).getD default)).1))))) rfl (fun hc11 => ?_) (fun hc11 => ?_)
      · have hr := if_t hc11 hr
        refine awc_seq ?_
        refine awc_region ?_
        refine awl_v (av_assign rfl) ?_
        have hr := Option.some.inj hr
        subst hr
        exact awl_nil (athen_norm (awc_ret (ablock_ret (athen_ret (⟨rfl, (wk_of hX [] 4 rfl rfl ⟨⟨_, rfl, cv0⟩, trivial⟩ trivial)⟩)))))
      · have hr := if_f hc11 hr
        refine awc_skip (ablock_norm (athen_norm ?_))
        refine awc_region ?_
        refine awl_v (av_add rfl rfl) ?_
        refine awl_v (av_move rfl) ?_
        have hr := Option.some.inj hr
        subst hr
        exact awl_nil ((wk_of hX [] 4 rfl rfl ⟨⟨_, rfl, cv0⟩, ⟨_, rfl, cv0⟩, ⟨_, rfl, cv0⟩, ⟨_, rfl, cv0⟩, ⟨_, rfl, cv0⟩, trivial⟩ trivial))
    · obtain rfl := rb_f hc5 ho
      exact awc_exit (athen_exit (⟨rfl, (wk_of hX [] 4 rfl rfl ⟨⟨_, rfl, cv0⟩, trivial⟩ trivial)⟩))
theorem fp6_runs {z : PZ} {p0 : List (Int × Int)} {r : Str} (hr : fp6 p0 = some r) : RunsT (TabM (tabsZ z)) Tryz.prog 6 [.sl Y1 p0] [] (fun q H' => q = [.str r] ∧ H' = []) := by
  refine runs_wT Tryz.func6 Tryz.ntmps6 rfl (rs := [.tmp 2]) rfl rfl fun w0 X hT hX => ?_
  refine awc_seq ?_
  refine awc_region ?_
  refine awl_v (av_assign rfl) ?_
  refine awl_nil (athen_norm (awc_seq (awc_seq ?_)))
  refine awc_region ?_
  refine awl_v (av_move rfl) ?_
  obtain ⟨x1, e2, hr⟩ := bnd_some hr
  refine awl_v (av_call (fp14_runs e2).x ent14 rfl rfl) ?_
  refine awl_v (av_not rfl) ?_
  refine awl_nil (athen_norm ?_)
  refine awc_cond (b := !x1) rfl (fun hc3 => ?_) (fun hc3 => ?_)
  · have hr := if_t hc3 hr
    refine awc_seq ?_
    refine awc_region ?_
    refine awl_v (av_assign rfl) ?_
    have hr := Option.some.inj hr
    subst hr
    exact awl_nil (athen_norm (awc_ret (athen_ret (ret_q (l' := [(2, .str ([] : Str))]) (wk_of hX [] 4 rfl rfl ⟨⟨_, rfl, cv0⟩, trivial⟩ trivial) rfl ⟨rfl, trivial⟩))))
  · have hr := if_f hc3 hr
    refine awc_skip (athen_norm (awc_seq ?_))
    refine awc_region ?_
    refine awl_v (av_assign rfl) ?_
    refine awl_nil (athen_norm (awc_seq (awc_seq ?_)))
    refine awc_region ?_
    refine awl_v (av_move rfl) ?_
    refine awl_v (av_len_sl (t := Y1) rfl rfl und22 rfl) ?_
    refine awl_v (av_move rfl) ?_
    refine awl_nil (athen_norm (awc_block ?_))
    obtain ⟨o9, e10, hr⟩ := bnd_some hr
    refine awc_len (t := 0) rfl (fun hl => ?_)
    refine awc_range (S := List Str) (R := Unit) (List.length p0 : Int) (fp6_b0 p0) (fun p => match p with | (i4, s6) => (⟨[(2, .str ([] : Str)), (3, .osl 0), (11, .sl Y1 p0), (12, .int .i64 (List.length p0 : Int)), (13, .int .i64 i4)], [(0, .sl 9 .str s6)], 1⟩ : AS)) (fun o e st => match o with | .inr _ => False | .inl s6 => e = .exit 0 ∧ Wk X st ⟨[(2, .str ([] : Str)), (3, .osl 0)], [(0, .sl 9 .str s6)], 1⟩) (len_ok hl) e10 (Wk.trans (wk_own (t := 3) 9 .str rfl) (wk_of hX [0] 4 rfl rfl ⟨⟨_, rfl, cv0⟩, ⟨_, rfl, cv0⟩, ⟨_, rfl, cv0⟩, ⟨_, rfl, cv0⟩, ⟨_, rfl, cv0⟩, trivial⟩ ⟨cvo0, trivial⟩)) ?_ ?_
    · intro e st hx
      rcases o9 with s6 | _
      · obtain ⟨rfl, hw⟩ := hx
        refine ablock_here (athen_norm ((awc_wk hw) (awc_seq ?_)))
        refine awc_region ?_
        refine awl_v (av_move rfl) ?_
        obtain ⟨x11, e12, hr⟩ := bnd_some hr
        refine awl_v (av_callB (as' := [.osl 0, .str ([44, 32] : Str)]) ((fJoin_runs e12).t hT) ent17 rfl ⟨cv0, cv0, trivial⟩ rfl rfl) ?_
        refine awl_v (av_assign rfl) ?_
        have hr := Option.some.inj hr
        subst hr
        exact awl_nil (athen_norm (awc_ret (ret_q (l' := [(2, .str x11)]) (wk_of hX [] 4 rfl rfl ⟨⟨_, rfl, cv0⟩, trivial⟩ trivial) rfl ⟨rfl, trivial⟩)))
      · exact hx.elim
    · rintro i4 s6 o ho
      refine awc_seq ?_
      refine awc_region ?_
      refine awl_v (av_lss rfl rfl) ?_
      refine awl_nil (athen_norm (awc_seq ?_))
      refine awc_cond (b := decide (i4 < (List.length p0 : Int))) rfl (fun hc13 => ?_) (fun hc13 => ?_)
      · obtain ⟨q, hr, rfl⟩ := rb_t hc13 ho
        refine awc_skip (athen_norm (awc_seq (awc_block (awc_seq ?_))))
        refine awc_region ?_
        obtain ⟨x14, e15, hr⟩ := bnd_some hr
        refine awl_v (av_ia_sl (t := Y1) (e := x14) und22 sz37 rfl rfl e15) ?_
        refine awl_v (av_load_rpN ts37 rfl rfl rfl) ?_
        refine awl_op (aop_alloc zero37 rfl ?_)
        refine awl_op (aop_store sz37 rfl rfl rfl rfl rfl rfl rfl ?_)
        refine awl_nil (athen_norm (awc_seq ?_))
        obtain ⟨x16, e17, hr⟩ := bnd_some hr
        obtain ⟨x18, e19, hr⟩ := bnd_some hr
        refine awc_draw_alloc (d := 6) (cs := [.str ([] : Str), .nils, .int .i64 0]) 5 mixed [2, 3, 11, 12, 13, 5] [(true, .agg (expl (.arr 13 Y2) x16)), (true, .ptr 1 0), (true, .int .i64 x14.1), (true, .int .i64 (w64 (x14.1 - 1))), (true, .agg [.str x18.1, .sl .str x18.2.1, .int .i64 x18.2.2])] [[], [], [1], [2], [0, 3]] [4] rfl rfl rfl rfl rfl rfl rfl rfl rfl rfl rfl rfl rfl zero43 rfl (fun F => ⟨?_, ?_, ?_, ?_, ?_, trivial⟩) (allT_of ⟨rfl, trivial⟩) ?_
        · exact ob_v rfl (fun hg => allT_of trivial) (fun hg => av_call (fp15_runs e17).x ent15 rfl rfl)
        · exact ob_v rfl (fun hg => allT_of trivial) (fun hg => av_fa_ptr fa37_0 rfl rfl)
        · exact ob_v rfl (fun hg => allT_of ⟨rfl, trivial⟩) (fun hg => av_load_ptr ts3 rfl rfl rfl)
        · exact ob_v rfl (fun hg => allT_of ⟨rfl, trivial⟩) (fun hg => av_sub rfl rfl)
        · exact ob_v rfl (fun hg => allT_of ⟨rfl, rfl, trivial⟩) (fun hg => av_index_arr (e := Y2) und44 ts43 rfl rfl e19)
        refine awl_op (aop_store sz43 rfl rfl rfl rfl rfl rfl rfl ?_)
        refine awl_nil (athen_norm (awc_seq ?_))
        refine awc_region ?_
        refine awl_v (av_fa_ptr fa37_1 rfl rfl) ?_
        refine awl_v (av_load_ptr ts3 rfl rfl rfl) ?_
        obtain ⟨x20, e21, hr⟩ := bnd_some hr
        refine awl_v (av_call ((fItoa_runs e21).t hT) ent16 rfl rfl) ?_
        refine awl_v (av_assign rfl) ?_
        refine awl_nil (athen_norm ?_)
        obtain ⟨o23, e24, hr⟩ := bnd_some hr
        refine awc_join (S := Str) (R := Unit) (fun s => match s with | s22 => (⟨[(2, .str ([] : Str)), (3, .osl 0), (6, .ptr 1 0), (7, .str s22), (11, .sl Y1 p0), (12, .int .i64 (List.length p0 : Int)), (13, .int .i64 i4)], [(0, .sl 9 .str s6), (1, .var 43 [.str x18.1, .sl .str x18.2.1, .int .i64 x18.2.2])], 2⟩ : AS)) (fun _ _ _ => False) e24 (fun hr => ?_) ?_ ?_
        · refine awc_seq ?_
          refine awc_region ?_
          refine awl_v (av_fa_ptr fa43_1 rfl rfl) ?_
          refine awl_v (av_load_ptr ts41 rfl rfl rfl) ?_
          refine awl_v (av_len_sl (t := .str) rfl rfl und41 rfl) ?_
          refine awl_v (av_gtr rfl rfl) ?_
          refine awl_nil (athen_norm ?_)
          refine awc_cond (b := decide (0 < (List.length x18.2.1 : Int))) rfl (fun hc25 => ?_) (fun hc25 => ?_)
          · have hr := if_t hc25 hr
            refine awc_region ?_
            refine awl_v (av_fa_ptr fa43_1 rfl rfl) ?_
            refine awl_v (av_load_ptr ts41 rfl rfl rfl) ?_
            refine awl_v (av_fa_ptr fa37_1 rfl rfl) ?_
            refine awl_v (av_load_ptr ts3 rfl rfl rfl) ?_
            refine awl_v (av_sub rfl rfl) ?_
            obtain ⟨x26, e27, hr⟩ := bnd_some hr
            refine awl_v (av_ia_sl (t := .str) (e := x26) und41 sz9 rfl rfl e27) ?_
            refine awl_v (av_load_rp ts9 rfl) ?_
            refine awl_v (av_assign rfl) ?_
            have hr := Option.some.inj hr
            subst hr
            exact awl_nil ((wk_of hX [0, 2] 4 rfl rfl ⟨⟨_, rfl, cv0⟩, ⟨_, rfl, cv0⟩, ⟨_, rfl, cv0⟩, ⟨_, rfl, cv0⟩, ⟨_, rfl, cv0⟩, ⟨_, rfl, cv0⟩, ⟨_, rfl, cv0⟩, trivial⟩ ⟨cvo0, cvo0, trivial⟩))
          · have hr := if_f hc25 hr
            have hr := Option.some.inj hr
            subst hr
            exact awc_skip ((wk_of hX [0, 2] 4 rfl rfl ⟨⟨_, rfl, cv0⟩, ⟨_, rfl, cv0⟩, ⟨_, rfl, cv0⟩, ⟨_, rfl, cv0⟩, ⟨_, rfl, cv0⟩, ⟨_, rfl, cv0⟩, ⟨_, rfl, cv0⟩, trivial⟩ ⟨cvo0, cvo0, trivial⟩))
        · rintro s22 rfl
          refine awc_region ?_
          refine awl_v (av_move rfl) ?_
          refine awl_v (av_fa_ptr fa43_0 rfl rfl) ?_
          refine awl_v (av_load_ptr ts9 rfl rfl rfl) ?_
          obtain ⟨h28, hr⟩ := chk_some hr
          refine awl_v (av_adds rfl rfl h28) ?_
          refine awl_v (av_move rfl) ?_
          obtain ⟨h29, hr⟩ := chk_some hr
          refine awl_v (av_adds rfl rfl h29) ?_
          refine awl_v (av_buildSlice (t := .str) (qs := [(0, [.str ((x18.1 ++ ([32] : Str)) ++ s22)])]) (ys := [((x18.1 ++ ([32] : Str)) ++ s22)]) bs41 rfl rfl rfl rfl rfl rfl rfl rfl) ?_
          obtain ⟨h30, hr⟩ := chk_some hr
          refine awl_op (aop_append rfl rfl app41 rfl rfl rfl h30 rfl ?_)
          refine awl_v (av_assign rfl) ?_
          refine awl_nil (ablock_norm (athen_norm ?_))
          refine awc_region ?_
          refine awl_v (av_add rfl rfl) ?_
          refine awl_v (av_move rfl) ?_
          have hr := Option.some.inj hr
          subst hr
          exact awl_nil ((wk_of hX [2] 4 rfl rfl ⟨⟨_, rfl, cv0⟩, ⟨_, rfl, cv0⟩, ⟨_, rfl, cv0⟩, ⟨_, rfl, cv0⟩, ⟨_, rfl, cv0⟩, trivial⟩ ⟨cvo0, trivial⟩))
        · exact fun r h e st hne hx => hx.elim
      · obtain rfl := rb_f hc13 ho
        exact awc_exit (athen_exit (⟨rfl, (wk_of hX [0] 4 rfl rfl ⟨⟨_, rfl, cv0⟩, ⟨_, rfl, cv0⟩, trivial⟩ ⟨cvo0, trivial⟩)⟩))
theorem fp61_iter {z : PZ} {σ R : Type} {r : σ ⊕ R} {m0 : Mem} {L : Nat} {G : σ → Mem → Frag → Prop} {Gx : R → Mem → Frag → Prop} {q : σ → Str → Option (σ ⊕ R)} {s0 : σ} {p1 : Str} {p2_0 : Str} {p3 : Int} (hr : fp61 q s0 p1 p2_0 p3 = some r) (hT : TabM (tabsZ z) m0) (hY : ∀ (s : σ) (x : Str) (s' : σ), q s x = some (.inl s') → YieldsX Tryz.prog L [.str x] true (G s) (G s')) (hYx : ∀ (s : σ) (x : Str) (r : R), q s x = some (.inr r) → YieldsX Tryz.prog L [.str x] false (G s) (Gx r)) : RunsX m0 Tryz.prog 61 [.yld L, .rp [.str p1], .ptr 1 0, .rp [.int .i64 p3]] [.guest (G s0), .var 9 [.str p2_0]] (fun rs H' => rs = [] ∧ ∃ Hc, H' = .guest (Sum.elim G Gx r) :: Hc) := by
  refine runs_wX Tryz.func61 Tryz.ntmps61 rfl (rs := []) rfl rfl fun w0 X ex hm hX hxe => ?_
  have hT := hT.mono hm
  refine awc_seq (awc_seq ?_)
  refine awc_region ?_
  refine awl_v (av_load_rp ts9 rfl) ?_
  refine awl_v (av_len_str rfl rfl und9 rfl) ?_
  refine awl_v (av_eql rfl rfl) ?_
  refine awl_nil (athen_norm ?_)
  refine awc_cond (b := decide ((List.length p1 : Int) = 0)) rfl (fun hc1 => ?_) (fun hc1 => ?_)
  · have hr := if_t hc1 hr
    refine awc_seq (awc_block ?_)
    obtain ⟨o2, e3, hr⟩ := bnd_some hr
    refine awc_loop (S := Unit) (R := Unit) (fun p => match p with | () => (⟨[(0, .yld L), (1, .rp [.str p1]), (2, .ptr 1 0), (3, .rp [.int .i64 p3])], [(0, .guest (G s0)), (1, .var 9 [.str p2_0])], 2⟩ : AS)) (fp61_b0 p2_0) (fun r e st => match r with | () => e = .exit 0 ∧ Wk X st ⟨[(0, .yld L), (1, .rp [.str p1]), (2, .ptr 1 0), (3, .rp [.int .i64 p3])], [(0, .guest (G s0)), (1, .var 9 [.str p2_0])], 2⟩) e3 (wk_of hX [0, 1] 4 rfl rfl ⟨⟨_, rfl, cv0⟩, ⟨_, rfl, cv0⟩, ⟨_, rfl, cv0⟩, ⟨_, rfl, cv0⟩, trivial⟩ ⟨cvo0, cvo0, trivial⟩) ?_ ?_
    · intro e st hx
      obtain ⟨rfl, hw⟩ := hx
      have hr := Option.some.inj hr
      subst hr
      exact ablock_here (athen_norm ((awc_wk hw) (awc_ret (athen_ret (ret_i (l' := []) (Hs := [(0, .guest (G s0)), (1, .var 9 [.str p2_0])]) (n := 2) (wk_of hX [0, 1] 4 rfl rfl trivial ⟨cvo0, cvo0, trivial⟩) rfl rfl)))))
    · rintro _ o hr
      refine awc_seq (awc_seq ?_)
      refine awc_region ?_
      refine awl_v (av_load_ptr ts9 rfl rfl rfl) ?_
      refine awl_v (av_len_str rfl rfl und9 rfl) ?_
      refine awl_v (av_gtr rfl rfl) ?_
      refine awl_nil (athen_norm ?_)
      refine awc_cond (b := decide (0 < (List.length p2_0 : Int))) rfl (fun hc4 => ?_) (fun hc4 => ?_)
      · have hr := if_t hc4 hr
        exact absurd hr (by simp)
      · have hr := if_f hc4 hr
        have hr := Option.some.inj hr
        subst hr
        exact awc_exit (athen_exit (⟨rfl, (wk_of hX [0, 1] 4 rfl rfl ⟨⟨_, rfl, cv0⟩, ⟨_, rfl, cv0⟩, ⟨_, rfl, cv0⟩, ⟨_, rfl, cv0⟩, trivial⟩ ⟨cvo0, cvo0, trivial⟩)⟩))
  · have hr := if_f hc1 hr
    refine awc_skip (athen_norm (awc_seq (awc_block ?_)))
    obtain ⟨o13, e14, hr⟩ := bnd_some hr
    refine awc_loop (S := σ × Str) (R := (σ × Str) ⊕ (R × Str)) (fun p => match p with | (s5, s6) => (⟨[(0, .yld L), (1, .rp [.str p1]), (2, .ptr 1 0), (3, .rp [.int .i64 p3])], [(0, .guest (G s5)), (1, .var 9 [.str s6])], 2⟩ : AS)) (fp61_b1 q p1 p3) (fun r e st => match r with | .inl (s9, s10) => e = .exit 2 ∧ Wk X st ⟨[(0, .yld L), (2, .ptr 1 0)], [(0, .guest (G s9)), (1, .var 9 [.str s10])], 2⟩ | .inr (s11, s12) => e = .ret ∧ Wk X st ⟨[], [(0, .guest (Gx s11)), (1, .var 9 [.str s12])], 2⟩) e14 (wk_of hX [0, 1] 4 rfl rfl ⟨⟨_, rfl, cv0⟩, ⟨_, rfl, cv0⟩, ⟨_, rfl, cv0⟩, ⟨_, rfl, cv0⟩, trivial⟩ ⟨cvo0, cvo0, trivial⟩) ?_ ?_
    · intro e st hx
      rcases o13 with ⟨s9, s10⟩ | ⟨s11, s12⟩
      · obtain ⟨rfl, hw⟩ := hx
        refine ablock_here (athen_norm ((awc_wk hw) ?_))
        refine awc_region ?_
        refine awl_v (av_move rfl) ?_
        refine awl_v (av_load_ptr ts9 rfl rfl rfl) ?_
        obtain ⟨o15, e16, hr⟩ := bnd_some hr
        rcases o15 with s17 | r18
        · refine awl_op (aop_yield (i := 0) (b := true) (as' := [.str s10]) rfl rfl rfl hxe rfl rfl (hY _ s10 _ e16) ?_)
          have hr := Option.some.inj hr
          subst hr
          exact awl_nil (retW_norm (ret_i (l' := []) (Hs := [(0, .guest (G s17)), (1, .var 9 [.str s10])]) (n := 2) (wk_of hX [0, 1] 4 rfl rfl trivial ⟨cvo0, cvo0, trivial⟩) rfl rfl))
        · refine awl_op (aop_yield (i := 0) (b := false) (as' := [.str s10]) rfl rfl rfl hxe rfl rfl (hYx _ s10 _ e16) ?_)
          have hr := Option.some.inj hr
          subst hr
          exact awl_nil (retW_norm (ret_i (l' := []) (Hs := [(0, .guest (Gx r18)), (1, .var 9 [.str s10])]) (n := 2) (wk_of hX [0, 1] 4 rfl rfl trivial ⟨cvo0, cvo0, trivial⟩) rfl rfl))
      · obtain ⟨rfl, hw⟩ := hx
        have hr := Option.some.inj hr
        subst hr
        exact ablock_ret (athen_ret (ret_i (l' := []) (Hs := [(0, .guest (Gx s11)), (1, .var 9 [.str s12])]) (n := 2) (Wk.trans hw (wk_of hX [0, 1] 4 rfl rfl trivial ⟨cvo0, cvo0, trivial⟩)) rfl rfl))
    · rintro ⟨s5, s6⟩ o hr
      refine awc_block (awc_seq ?_)
      refine awc_region ?_
      refine awl_v (av_load_ptr ts9 rfl rfl rfl) ?_
      refine awl_v (av_load_rp ts9 rfl) ?_
      obtain ⟨x19, e20, hr⟩ := bnd_some hr
      refine awl_v (av_call ((fIndex_runs e20).t hT) ent63 rfl rfl) ?_
      refine awl_v (av_assign rfl) ?_
      refine awl_nil (athen_norm (awc_seq (awc_seq ?_)))
      refine awc_region ?_
      refine awl_v (av_move rfl) ?_
      refine awl_v (av_lss rfl rfl) ?_
      refine awl_nil (athen_norm ?_)
      refine awc_cond (b := decide (x19 < 0)) rfl (fun hc21 => ?_) (fun hc21 => ?_)
      · have hr := if_t hc21 hr
        have hr := Option.some.inj hr
        subst hr
        exact awc_exit (athen_exit ((ablock_far rfl) (⟨rfl, (wk_of hX [0, 1] 4 rfl rfl ⟨⟨_, rfl, cv0⟩, ⟨_, rfl, cv0⟩, trivial⟩ ⟨cvo0, cvo0, trivial⟩)⟩)))
      · have hr := if_f hc21 hr
        refine awc_skip (athen_norm (awc_seq ?_))
        refine awc_region ?_
        refine awl_v (av_load_ptr ts9 rfl rfl rfl) ?_
        refine awl_v (av_move rfl) ?_
        refine awl_v (av_load_rp ts3 rfl) ?_
        refine awl_v (av_add rfl rfl) ?_
        obtain ⟨h22, hr⟩ := chk_some hr
        refine awl_v (av_slice_str (l := 0) (h := (w64 (x19 + p3))) und9 rfl rfl ⟨_, rfl⟩ h22) ?_
        refine awl_v (av_assign rfl) ?_
        refine awl_nil (athen_norm (awc_seq (awc_seq ?_)))
        refine awc_region ?_
        refine awl_v (av_move rfl) ?_
        refine awl_v (av_move rfl) ?_
        obtain ⟨o23, e24, hr⟩ := bnd_some hr
        rcases o23 with s25 | r26
        · refine awl_op (aop_yield (i := 0) (b := true) (as' := [.str ((s6.take (Int.toNat (w64 (x19 + p3)))).drop (Int.toNat 0))]) rfl rfl rfl hxe rfl rfl (hY _ ((s6.take (Int.toNat (w64 (x19 + p3)))).drop (Int.toNat 0)) _ e24) ?_)
          refine awl_v (av_not rfl) ?_
          refine awl_nil (athen_norm (awc_cond_f rfl (awc_skip (athen_norm ?_))))
          refine awc_region ?_
          refine awl_v (av_load_ptr ts9 rfl rfl rfl) ?_
          refine awl_v (av_move rfl) ?_
          refine awl_v (av_load_rp ts9 rfl) ?_
          refine awl_v (av_len_str rfl rfl und9 rfl) ?_
          refine awl_v (av_add rfl rfl) ?_
          obtain ⟨h27, hr⟩ := chk_some hr
          refine awl_v (av_slice_str (l := (w64 (x19 + (List.length p1 : Int)))) (h := (List.length s6 : Int)) und9 rfl ⟨_, rfl⟩ rfl h27) ?_
          refine awl_op (aop_store sz9 rfl rfl rfl rfl rfl rfl rfl ?_)
          have hr := Option.some.inj hr
          subst hr
          exact awl_nil (ablock_norm ((wk_of hX [0, 1] 4 rfl rfl ⟨⟨_, rfl, cv0⟩, ⟨_, rfl, cv0⟩, ⟨_, rfl, cv0⟩, ⟨_, rfl, cv0⟩, trivial⟩ ⟨cvo0, cvo0, trivial⟩)))
        · refine awl_op (aop_yield (i := 0) (b := false) (as' := [.str ((s6.take (Int.toNat (w64 (x19 + p3)))).drop (Int.toNat 0))]) rfl rfl rfl hxe rfl rfl (hYx _ ((s6.take (Int.toNat (w64 (x19 + p3)))).drop (Int.toNat 0)) _ e24) ?_)
          refine awl_v (av_not rfl) ?_
          have hr := Option.some.inj hr
          subst hr
          exact awl_nil (athen_norm (awc_cond_t rfl (awc_ret (athen_ret (ablock_ret (⟨rfl, (wk_of hX [0, 1] 4 rfl rfl trivial ⟨cvo0, cvo0, trivial⟩)⟩))))))
theorem fp41_runs {z : PZ} {p0 : Str} {p1 : Str} {p2 : Int} {r : Unit} (hr : fp41 p0 p1 p2 = some r) : RunsT (TabM (tabsZ z)) Tryz.prog 41 [.str p0, .str p1, .int .i64 p2] [] (fun q Hq => q = [.fn 61 [] [.ptr 0 0, .ptr 1 0, .ptr 2 0]] ∧ Hq = [.var 9 [.str p1], .var 9 [.str p0], .var 3 [.int .i64 p2]]) := by
  refine runs_wT Tryz.func41 Tryz.ntmps41 rfl (rs := [.tmp 6]) rfl rfl fun w0 X hT hX => ?_
  refine awc_seq ?_
  refine awc_region ?_
  refine awl_op (aop_box rfl rfl ?_)
  refine awl_op (aop_box rfl rfl ?_)
  refine awl_op (aop_box rfl rfl ?_)
  refine awl_v (av_assign rfl) ?_
  refine awl_nil (athen_norm (awc_seq ?_))
  refine awc_region ?_
  refine awl_v (av_makeFunc (us := []) (vs := [.ptr 1 0, .ptr 0 0, .ptr 2 0]) rfl rfl) ?_
  refine awl_v (av_assign rfl) ?_
  have hr := Option.some.inj hr
  subst hr
  exact awl_nil (athen_norm (awc_ret (ret_o (l' := [(6, .fn 61 [] [.ptr 0 0, .ptr 1 0, .ptr 2 0])]) (Hs := [(0, .var 9 [.str p1]), (1, .var 9 [.str p0]), (2, .var 3 [.int .i64 p2])]) (n := 3) (wk_of hX [1, 0, 2] 4 rfl rfl ⟨⟨_, rfl, cv0⟩, trivial⟩ ⟨cvo0, cvo0, cvo0, trivial⟩) rfl rfl rfl ⟨rfl, trivial⟩)))
theorem fp18_runs {z : PZ} {p0 : Str} {p1 : Str} {r : Unit} (hr : fp18 p0 p1 = some r) : RunsT (TabM (tabsZ z)) Tryz.prog 18 [.str p0, .str p1] [] (fun q Hq => q = [.fn 61 [] [.ptr 0 0, .ptr 1 0, .ptr 2 0]] ∧ Hq = [.var 9 [.str p1], .var 9 [.str p0], .var 3 [.int .i64 0]]) := by
  refine runs_wT Tryz.func18 Tryz.ntmps18 rfl (rs := [.tmp 4]) rfl rfl fun w0 X hT hX => ?_
  refine awc_seq ?_
  refine awc_region ?_
  refine awl_v (av_assign rfl) ?_
  refine awl_nil (athen_norm (awc_seq ?_))
  refine awc_region ?_
  refine awl_v (av_move rfl) ?_
  refine awl_v (av_move rfl) ?_
  obtain ⟨x1, e2, hr⟩ := bnd_some hr
  refine awl_op (aop_callO (σ := []) (as' := [.str p0, .str p1, .int .i64 0]) ((fp41_runs e2).t hT) ent41 rfl ⟨cv0, cv0, cv0, trivial⟩ rfl rfl rfl ?_)
  refine awl_v (av_assign rfl) ?_
  have hr := Option.some.inj hr
  subst hr
  exact awl_nil (athen_norm (awc_ret (ret_o (l' := [(4, .fn 61 [] [.ptr 0 0, .ptr 1 0, .ptr 2 0])]) (Hs := [(0, .var 9 [.str p1]), (1, .var 9 [.str p0]), (2, .var 3 [.int .i64 0])]) (n := 3) (wk_of hX [0, 1, 2] 4 rfl rfl ⟨⟨_, rfl, cv0⟩, trivial⟩ ⟨cvo0, cvo0, cvo0, trivial⟩) rfl rfl rfl ⟨rfl, trivial⟩)))
theorem fp21_runs {p0 : Str × List Str × Int} {p1 : Str} {r : Bool} (hr : fp21 p0 p1 = some r) : RunsP Tryz.prog 21 [.agg [.str p0.1, .sl .str p0.2.1, .int .i64 p0.2.2], .rp [.str p1]] [.bool r] := by
  refine runs_w Tryz.func21 Tryz.ntmps21 rfl (rs := [.tmp 3]) rfl rfl fun w0 X hX => ?_
  refine awc_seq ?_
  refine awc_region ?_
  refine awl_op (aop_box rfl rfl ?_)
  refine awl_v (av_assign rfl) ?_
  refine awl_nil (athen_norm (awc_seq ?_))
  refine awc_region ?_
  refine awl_v (av_fa_ptr fa43_0 rfl rfl) ?_
  refine awl_v (av_load_ptr ts9 rfl rfl rfl) ?_
  refine awl_v (av_load_rp ts9 rfl) ?_
  refine awl_v (av_eqls rfl rfl) ?_
  refine awl_v (av_assign rfl) ?_
  have hr := Option.some.inj hr
  subst hr
  exact awl_nil (athen_norm (awc_ret (ret_q (l' := [(3, .bool (decide (p0.1 = p1)))]) (wk_of hX [] 4 rfl rfl ⟨⟨_, rfl, cv0⟩, trivial⟩ trivial) rfl ⟨rfl, trivial⟩)))
theorem fp20_runs {p0 : List (Str × List Str × Int)} {q1 : (Str × List Str × Int) → Option Bool} {r : Int} {g1 : FuncId} {c1s : List AV} (h_q1 : ∀ (y1 : Str × List Str × Int) (r : Bool), q1 y1 = some r → RunsP Tryz.prog g1 ([.agg [.str y1.1, .sl .str y1.2.1, .int .i64 y1.2.2]] ++ c1s) [.bool r]) (k_q1 : FnIn Tryz.prog g1 c1s) (hr : fp20 p0 q1 = some r) : RunsP Tryz.prog 20 [.sl Y2 p0, .clo (.fn g1 [] c1s)] [.int .i64 r] := by
  refine runs_w Tryz.func20 Tryz.ntmps20 rfl (rs := [.tmp 4]) rfl rfl fun w0 X hX => ?_
  refine awc_seq ?_
  refine awc_region ?_
  refine awl_v (av_assign rfl) ?_
  refine awl_nil (athen_norm (awc_seq (awc_seq ?_)))
  refine awc_region ?_
  refine awl_v (av_move rfl) ?_
  refine awl_v (av_len_sl (t := Y2) rfl rfl und54 rfl) ?_
  refine awl_v (av_move rfl) ?_
  refine awl_nil (athen_norm (awc_block ?_))
  obtain ⟨o4, e5, hr⟩ := bnd_some hr
  refine awc_len (t := 0) rfl (fun hl => ?_)
  refine awc_range (S := Unit) (R := Int) (List.length p0 : Int) (fp20_b0 p0 q1) (fun p => match p with | (i1, ()) => (⟨[(0, .sl Y2 p0), (1, .clo (.fn g1 [] c1s)), (4, .int .i64 0), (7, .int .i64 (List.length p0 : Int)), (8, .int .i64 i1)], [], 0⟩ : AS)) (fun o e st => match o with | .inl () => e = .exit 0 ∧ Wk X st ⟨[(4, .int .i64 0)], [], 0⟩ | .inr s3 => e = .ret ∧ Wk X st ⟨[(4, .int .i64 s3)], [], 0⟩) (len_ok hl) e5 (wk_of hX [] 4 rfl rfl ⟨⟨_, rfl, cv0⟩, ⟨_, rfl, cv0⟩, ⟨_, rfl, cv0⟩, ⟨_, rfl, cv0⟩, ⟨_, rfl, cv0⟩, trivial⟩ trivial) ?_ ?_
  · intro e st hx
    rcases o4 with _ | s3
    · obtain ⟨rfl, hw⟩ := hx
      refine ablock_here (athen_norm ((awc_wk hw) (awc_seq ?_)))
      refine awc_region ?_
      refine awl_v (av_assign rfl) ?_
      have hr := Option.some.inj hr
      subst hr
      exact awl_nil (athen_norm (awc_ret (ret_q (l' := [(4, .int .i64 (-1))]) (wk_of hX [] 4 rfl rfl ⟨⟨_, rfl, cv0⟩, trivial⟩ trivial) rfl ⟨rfl, trivial⟩)))
    · obtain ⟨rfl, hw⟩ := hx
      have hr := Option.some.inj hr
      subst hr
      exact ablock_ret (athen_ret (ret_q (l' := [(4, .int .i64 s3)]) (Wk.trans hw (wk_of hX [] 4 rfl rfl ⟨⟨_, rfl, cv0⟩, trivial⟩ trivial)) rfl ⟨rfl, trivial⟩))
  · rintro i1 _ o ho
    refine awc_seq ?_
    refine awc_region ?_
    refine awl_v (av_lss rfl rfl) ?_
    refine awl_nil (athen_norm (awc_seq ?_))
    refine awc_cond (b := decide (i1 < (List.length p0 : Int))) rfl (fun hc6 => ?_) (fun hc6 => ?_)
    · obtain ⟨q, hr, rfl⟩ := rb_t hc6 ho
      refine awc_skip (athen_norm (awc_seq (awc_block (awc_seq ?_))))
      refine awc_region ?_
      refine awl_v (av_move rfl) ?_
      refine awl_v (av_assign rfl) ?_
      refine awl_nil (athen_norm (awc_seq ?_))
      refine awc_region ?_
      refine awl_v (av_move rfl) ?_
      refine awl_v (av_move rfl) ?_
      refine awl_v (av_move rfl) ?_
      obtain ⟨x7, e8, hr⟩ := bnd_some hr
      refine awl_v (av_ia_sl (t := Y2) (e := x7) und54 sz43 rfl rfl e8) ?_
      refine awl_v (av_load_rpN ts43 rfl rfl rfl) ?_
      obtain ⟨x9, e10, hr⟩ := bnd_some hr
      refine awl_v (av_callq rfl (h_q1 x7 x9 e10).x k_q1 rfl rfl rfl) ?_
      refine awl_nil (athen_norm ?_)
      refine awc_cond (b := x9) rfl (fun hc11 => ?_) (fun hc11 => ?_)
      · have hr := if_t hc11 hr
        refine awc_seq ?_
        refine awc_region ?_
        refine awl_v (av_move rfl) ?_
        refine awl_v (av_assign rfl) ?_
        have hr := Option.some.inj hr
        subst hr
        exact awl_nil (athen_norm (awc_ret (ablock_ret (athen_ret (⟨rfl, (wk_of hX [] 4 rfl rfl ⟨⟨_, rfl, cv0⟩, trivial⟩ trivial)⟩)))))
      · have hr := if_f hc11 hr
        refine awc_skip (ablock_norm (athen_norm ?_))
        refine awc_region ?_
        refine awl_v (av_add rfl rfl) ?_
        refine awl_v (av_move rfl) ?_
        have hr := Option.some.inj hr
        subst hr
        exact awl_nil ((wk_of hX [] 4 rfl rfl ⟨⟨_, rfl, cv0⟩, ⟨_, rfl, cv0⟩, ⟨_, rfl, cv0⟩, ⟨_, rfl, cv0⟩, ⟨_, rfl, cv0⟩, trivial⟩ trivial))
    · obtain rfl := rb_f hc6 ho
      exact awc_exit (athen_exit (⟨rfl, (wk_of hX [] 4 rfl rfl ⟨⟨_, rfl, cv0⟩, trivial⟩ trivial)⟩))
end Go.Ab


set_option linter.unusedVariables false
set_option maxRecDepth 100000
namespace Go.Ab
open Go.RowKit Go.Shelf Go.Proofs Go.Eng
theorem zero22 : Eng.Zero Tryz.prog 22 (.slice none 0 0) := fun w => by kernel_rfl
theorem zero26 : Eng.Zero Tryz.prog 26 (.int .i64 0) := fun w => by kernel_rfl
theorem sz26 : Sz Tryz.prog 26 1 := fun w => by kernel_rfl
theorem ts26 : TyS Tryz.prog 26 false 1 := ⟨fun w => by kernel_rfl, fun w => by kernel_rfl⟩
theorem ent18 : Enters Tryz.prog 18 := enters_of Tryz.func18 (by kernel_rfl) rfl
theorem ent19 : Enters Tryz.prog 19 := enters_of Tryz.func19 (by kernel_rfl) rfl
theorem zero9 : Eng.Zero Tryz.prog 9 (.string ByteArray.empty) := fun w => by kernel_rfl
theorem ent21 : Enters Tryz.prog 21 := enters_of Tryz.func21 (by kernel_rfl) rfl
theorem ent20 : Enters Tryz.prog 20 := enters_of Tryz.func20 (by kernel_rfl) rfl
theorem ent22 : Enters Tryz.prog 22 := enters_of Tryz.func22 (by kernel_rfl) rfl
theorem ent23 : Enters Tryz.prog 23 := enters_of Tryz.func23 (by kernel_rfl) rfl
theorem bt37 : BuildT Tryz.prog 37 (.agg #[.int .i64 0, .int .i64 0]) (fun i => [(0, 1), (1, 1)][i]?) := buildT_struct zero37 (fs := Tryz.prog.fieldsOf 37) (by kernel_rfl) (fun w => by kernel_rfl)
theorem bs22 : BuildS Tryz.prog 22 37 Y1 := buildS_of (z := .agg #[.int .i64 0, .int .i64 0]) (by kernel_rfl) (by kernel_rfl) rfl
theorem app22 : AppT Tryz.prog 22 37 (Ty.cells Y1) 16 := appT_of (z := .agg #[.int .i64 0, .int .i64 0]) (by kernel_rfl) (by kernel_rfl) rfl rfl
theorem ent61 : Enters Tryz.prog 61 := enters_of Tryz.func61 (by kernel_rfl) rfl
theorem ent6 : Enters Tryz.prog 6 := enters_of Tryz.func6 (by kernel_rfl) rfl
theorem ent46 : Enters Tryz.prog 46 := enters_of Tryz.func46 (by kernel_rfl) rfl
theorem ent25 : Enters Tryz.prog 25 := enters_of Tryz.func25 (by kernel_rfl) rfl
theorem ent26 : Enters Tryz.prog 26 := enters_of Tryz.func26 (by kernel_rfl) rfl
theorem ent11 : Enters Tryz.prog 11 := enters_of Tryz.func11 (by kernel_rfl) rfl
theorem ent24 : Enters Tryz.prog 24 := enters_of Tryz.func24 (by kernel_rfl) rfl
theorem ent9 : Enters Tryz.prog 9 := enters_of Tryz.func9 (by kernel_rfl) rfl
theorem eq37 {a0 b0 : Int} {a1 b1 : Int} : EqT Tryz.prog 37 [.int .i64 a0, .int .i64 a1] [.int .i64 b0, .int .i64 b1] := ⟨by kernel_rfl, fun w => run_eqFlat (fs := (Tryz.prog.fieldsOf 37).toList) (by kernel_rfl) (by kernel_rfl) (by kernel_rfl) (by kernel_rfl)⟩
theorem bs32 : BuildS Tryz.prog 32 22 (.slice Y1) := buildS_of (z := .slice none 0 0) (by kernel_rfl) (by kernel_rfl) rfl
theorem ent4 : Enters Tryz.prog 4 := enters_of Tryz.func4 (by kernel_rfl) rfl
theorem ent5 : Enters Tryz.prog 5 := enters_of Tryz.func5 (by kernel_rfl) rfl
theorem ent7 : Enters Tryz.prog 7 := enters_of Tryz.func7 (by kernel_rfl) rfl
theorem ent8 : Enters Tryz.prog 8 := enters_of Tryz.func8 (by kernel_rfl) rfl
theorem ent10 : Enters Tryz.prog 10 := enters_of Tryz.func10 (by kernel_rfl) rfl
theorem fp22_runs {p0 : List Str} {p1 : Str} {r : Int} (hr : fp22 p0 p1 = some r) : RunsP Tryz.prog 22 [.sl .str p0, .str p1] [.int .i64 r] := by
  refine runs_w Tryz.func22 Tryz.ntmps22 rfl (rs := [.tmp 4]) rfl rfl fun w0 X hX => ?_
  refine awc_seq ?_
  refine awc_region ?_
  refine awl_v (av_assign rfl) ?_
  refine awl_nil (athen_norm (awc_seq (awc_seq ?_)))
  refine awc_region ?_
  refine awl_v (av_move rfl) ?_
  refine awl_v (av_len_sl (t := .str) rfl rfl und41 rfl) ?_
  refine awl_v (av_move rfl) ?_
  refine awl_nil (athen_norm (awc_block ?_))
  obtain ⟨o4, e5, hr⟩ := bnd_some hr
  refine awc_len (t := 0) rfl (fun hl => ?_)
  refine awc_range (S := Unit) (R := Int) (List.length p0 : Int) (fp22_b0 p0 p1) (fun p => match p with | (i1, ()) => (⟨[(0, .sl .str p0), (1, .str p1), (4, .int .i64 0), (7, .int .i64 (List.length p0 : Int)), (8, .int .i64 i1)], [], 0⟩ : AS)) (fun o e st => match o with | .inl () => e = .exit 0 ∧ Wk X st ⟨[(4, .int .i64 0)], [], 0⟩ | .inr s3 => e = .ret ∧ Wk X st ⟨[(4, .int .i64 s3)], [], 0⟩) (len_ok hl) e5 (wk_of hX [] 4 rfl rfl ⟨⟨_, rfl, cv0⟩, ⟨_, rfl, cv0⟩, ⟨_, rfl, cv0⟩, ⟨_, rfl, cv0⟩, ⟨_, rfl, cv0⟩, trivial⟩ trivial) ?_ ?_
  · intro e st hx
    rcases o4 with _ | s3
    · obtain ⟨rfl, hw⟩ := hx
      refine ablock_here (athen_norm ((awc_wk hw) (awc_seq ?_)))
      refine awc_region ?_
      refine awl_v (av_assign rfl) ?_
      have hr := Option.some.inj hr
      subst hr
      exact awl_nil (athen_norm (awc_ret (ret_q (l' := [(4, .int .i64 (-1))]) (wk_of hX [] 4 rfl rfl ⟨⟨_, rfl, cv0⟩, trivial⟩ trivial) rfl ⟨rfl, trivial⟩)))
    · obtain ⟨rfl, hw⟩ := hx
      have hr := Option.some.inj hr
      subst hr
      exact ablock_ret (athen_ret (ret_q (l' := [(4, .int .i64 s3)]) (Wk.trans hw (wk_of hX [] 4 rfl rfl ⟨⟨_, rfl, cv0⟩, trivial⟩ trivial)) rfl ⟨rfl, trivial⟩))
  · rintro i1 _ o ho
    refine awc_seq ?_
    refine awc_region ?_
    refine awl_v (av_lss rfl rfl) ?_
    refine awl_nil (athen_norm (awc_seq ?_))
    refine awc_cond (b := decide (i1 < (List.length p0 : Int))) rfl (fun hc6 => ?_) (fun hc6 => ?_)
    · obtain ⟨q, hr, rfl⟩ := rb_t hc6 ho
      refine awc_skip (athen_norm (awc_seq (awc_block (awc_seq ?_))))
      refine awc_region ?_
      refine awl_v (av_move rfl) ?_
      refine awl_v (av_assign rfl) ?_
      refine awl_nil (athen_norm (awc_seq ?_))
      refine awc_region ?_
      refine awl_v (av_move rfl) ?_
      refine awl_v (av_move rfl) ?_
      refine awl_v (av_move rfl) ?_
      obtain ⟨x7, e8, hr⟩ := bnd_some hr
      refine awl_v (av_ia_sl (t := .str) (e := x7) und41 sz9 rfl rfl e8) ?_
      refine awl_v (av_load_rp ts9 rfl) ?_
      refine awl_v (av_eqls rfl rfl) ?_
      refine awl_nil (athen_norm ?_)
      refine awc_cond (b := decide (p1 = x7)) rfl (fun hc9 => ?_) (fun hc9 => ?_)
      · have hr := if_t hc9 hr
        refine awc_seq ?_
        refine awc_region ?_
        refine awl_v (av_move rfl) ?_
        refine awl_v (av_assign rfl) ?_
        have hr := Option.some.inj hr
        subst hr
        exact awl_nil (athen_norm (awc_ret (ablock_ret (athen_ret (⟨rfl, (wk_of hX [] 4 rfl rfl ⟨⟨_, rfl, cv0⟩, trivial⟩ trivial)⟩)))))
      · have hr := if_f hc9 hr
        refine awc_skip (ablock_norm (athen_norm ?_))
        refine awc_region ?_
        refine awl_v (av_add rfl rfl) ?_
        refine awl_v (av_move rfl) ?_
        have hr := Option.some.inj hr
        subst hr
        exact awl_nil ((wk_of hX [] 4 rfl rfl ⟨⟨_, rfl, cv0⟩, ⟨_, rfl, cv0⟩, ⟨_, rfl, cv0⟩, ⟨_, rfl, cv0⟩, ⟨_, rfl, cv0⟩, trivial⟩ trivial))
    · obtain rfl := rb_f hc6 ho
      exact awc_exit (athen_exit (⟨rfl, (wk_of hX [] 4 rfl rfl ⟨⟨_, rfl, cv0⟩, trivial⟩ trivial)⟩))
theorem fp7_runs {z : PZ} {p0 : Str} {r : (List (Int × Int)) × Int} (hr : fp7 p0 = some r) : RunsT (TabM (tabsZ z)) Tryz.prog 7 [.str p0] [] (fun q H' => q = [.sl Y1 r.1, .int .i64 r.2] ∧ H' = []) := by
  refine runs_wMT Tryz.func7 Tryz.ntmps7 rfl (rs := [.cell 2 22, .cell 3 26]) rfl rfl rfl fun w0 X hT hX hxe => ?_
  refine awc_seq ?_
  refine awc_region ?_
  refine awl_op (aop_alloc zero22 rfl ?_)
  refine awl_op (aop_alloc zero26 rfl ?_)
  refine awl_nil (athen_norm (awc_seq (awc_seq ?_)))
  refine awc_region ?_
  refine awl_v (av_move rfl) ?_
  refine awl_v (av_len_str rfl rfl und9 rfl) ?_
  refine awl_v (av_gtr rfl rfl) ?_
  refine awl_nil (athen_norm ?_)
  refine awc_cond (b := decide (65536 < (List.length p0 : Int))) rfl (fun hc1 => ?_) (fun hc1 => ?_)
  · have hr := if_t hc1 hr
    refine awc_seq ?_
    refine awc_region ?_
    refine awl_op (aop_store sz22 rfl rfl rfl rfl rfl rfl rfl ?_)
    refine awl_op (aop_store sz26 rfl rfl rfl rfl rfl rfl rfl ?_)
    have hr := Option.some.inj hr
    subst hr
    exact awl_nil (athen_norm (awc_ret (athen_ret (ret_q (l' := [(2, .rp [.sl Y1 ([] : List (Int × Int))]), (3, .rp [.int .i64 3])]) (Wk.trans (wk_of (st' := ⟨[(2, .ptr 0 0), (3, .ptr 1 0)], [(0, .var 22 [.sl Y1 ([] : List (Int × Int))]), (1, .var 26 [.int .i64 3])], 2⟩) hX [0, 1] 4 rfl rfl ⟨⟨_, rfl, cv0⟩, ⟨_, rfl, cv0⟩, trivial⟩ ⟨cvo1 ⟨cv2, trivial⟩, cvo0, trivial⟩) (wk_of hX [] 4 rfl rfl ⟨⟨_, rfl, cv0⟩, ⟨_, rfl, cv0⟩, trivial⟩ trivial)) rfl ⟨(.inl ⟨_, rfl, ts22⟩), (.inl ⟨_, rfl, ts26⟩), trivial⟩))))
  · have hr := if_f hc1 hr
    refine awc_skip (athen_norm (awc_seq (awc_seq ?_)))
    refine awc_region ?_
    refine awl_v (av_move rfl) ?_
    refine awl_v (av_eqls rfl rfl) ?_
    refine awl_nil (athen_norm ?_)
    refine awc_cond (b := decide (p0 = ([] : Str))) rfl (fun hc2 => ?_) (fun hc2 => ?_)
    · have hr := if_t hc2 hr
      refine awc_seq ?_
      refine awc_region ?_
      refine awl_op (aop_store sz22 rfl rfl rfl rfl rfl rfl rfl ?_)
      refine awl_op (aop_store sz26 rfl rfl rfl rfl rfl rfl rfl ?_)
      have hr := Option.some.inj hr
      subst hr
      exact awl_nil (athen_norm (awc_ret (athen_ret (ret_q (l' := [(2, .rp [.sl Y1 ([] : List (Int × Int))]), (3, .rp [.int .i64 0])]) (Wk.trans (wk_of (st' := ⟨[(2, .ptr 0 0), (3, .ptr 1 0)], [(0, .var 22 [.sl Y1 ([] : List (Int × Int))]), (1, .var 26 [.int .i64 0])], 2⟩) hX [0, 1] 4 rfl rfl ⟨⟨_, rfl, cv0⟩, ⟨_, rfl, cv0⟩, trivial⟩ ⟨cvo1 ⟨cv2, trivial⟩, cvo0, trivial⟩) (wk_of hX [] 4 rfl rfl ⟨⟨_, rfl, cv0⟩, ⟨_, rfl, cv0⟩, trivial⟩ trivial)) rfl ⟨(.inl ⟨_, rfl, ts22⟩), (.inl ⟨_, rfl, ts26⟩), trivial⟩))))
    · have hr := if_f hc2 hr
      refine awc_skip (athen_norm (awc_seq ?_))
      refine awc_region ?_
      refine awl_op (aop_alloc zero22 rfl ?_)
      refine awl_nil (athen_norm (awc_seq (awc_seq ?_)))
      refine awc_region ?_
      refine awl_v (av_move rfl) ?_
      obtain ⟨x3, e4, hr⟩ := bnd_some hr
      refine awl_op (aop_callO (σ := []) (as' := [.str p0, .str ([44, 32] : Str)]) ((fp18_runs e4).t hT) ent18 rfl ⟨cv0, cv0, trivial⟩ rfl rfl rfl ?_)
      refine awl_nil (athen_norm (awc_block ?_))
      refine awc_wk (wk_of (st' := ⟨[(0, .str p0), (2, .ptr 0 0), (3, .ptr 1 0), (12, .str p0), (13, .int .i64 (List.length p0 : Int)), (14, .bool (decide (65536 < (List.length p0 : Int)))), (15, .str p0), (16, .bool (decide (p0 = ([] : Str)))), (4, .ptr 2 0), (17, .str p0), (18, .fn 61 [] [.rp [.str ([44, 32] : Str)], .ptr 3 0, .rp [.int .i64 0]])], [(0, .var 22 [.nils]), (1, .var 26 [.int .i64 0]), (2, .var 22 [.nils]), (3, .var 9 [.str p0])], 4⟩) hX [0, 1, 2, 4] 4 rfl rfl ⟨⟨_, rfl, cv0⟩, ⟨_, rfl, cv0⟩, ⟨_, rfl, cv0⟩, ⟨_, rfl, cv0⟩, ⟨_, rfl, cv0⟩, ⟨_, rfl, cv0⟩, ⟨_, rfl, cv0⟩, ⟨_, rfl, cv0⟩, ⟨_, rfl, cv0⟩, ⟨_, rfl, cv0⟩, ⟨_, rfl, cv0⟩, trivial⟩ ⟨cvo0, cvo0, cvo0, cvo0, trivial⟩) ?_
      obtain ⟨o10, e11, hr⟩ := bnd_some hr
      refine awc_wk (st' := ⟨[(0, .str p0), (2, .ptr 0 0), (3, .ptr 1 0), (4, .ptr 2 0), (18, .fn 61 [] [.rp [.str ([44, 32] : Str)], .ptr 3 0, .rp [.int .i64 0]])], [(0, .var 22 [.nils]), (1, .var 26 [.int .i64 0]), (2, .var 22 [.osl 4]), (3, .var 9 [.str p0]), (4, .sl 37 Y1 ([] : List (Int × Int)))], 5⟩) (Wk.trans (wk_ownC (i := 2) (o := 0) 37 Y1 rfl rfl rfl) (wk_of hX [0, 1, 2, 3, 4] 4 rfl rfl ⟨⟨_, rfl, cv0⟩, ⟨_, rfl, cv0⟩, ⟨_, rfl, cv0⟩, ⟨_, rfl, cv0⟩, ⟨_, rfl, cv0⟩, trivial⟩ ⟨cvo0, cvo0, cvo0, cvo0, cvo0, trivial⟩)) (awc_rangeX (σ := (List (Int × Int))) (α := Str) (R := (List (Int × Int))) [.rp [.str ([44, 32] : Str)], .ptr 1 0, .rp [.int .i64 0]] [.var 9 [.str p0]] 4 (fp7_b0) (fun x => [.str x]) [(0, .str p0), (2, .ptr 0 0), (3, .ptr 1 0), (4, .ptr 2 0), (18, .fn 61 [] [.rp [.str ([44, 32] : Str)], .ptr 3 0, .rp [.int .i64 0]])] (fun p => match p with | s6 => ([(0, .var 22 [.nils]), (1, .var 26 [.int .i64 0]), (2, .var 22 [.osl 4]), (3, .dead), (4, .sl 37 Y1 s6)] : AH)) (fun r => match r with | s9 => ([(0, .var 22 [.nils]), (1, .var 26 [.int .i64 2]), (2, .var 22 [.osl 4]), (3, .dead), (4, .sl 37 Y1 s9)] : AH)) (fun r => match r with | _ => .ret) 5 (fun r => match r with | _ => 5) [3] rfl rfl hxe rfl ent61 rfl rfl (fun _ => rfl) rfl (by rw [hX]; rfl) rfl rfl rfl rfl (fun L G Gx hY hYx => fp61_iter (q := fp7_b0) e11 hT hY hYx) ?_ (fun r => rfl) ?_ ?_)
      · intro w0 L X ex hm hX hxe
        rintro s6 y12 s' hr
        refine awc_region ?_
        refine awl_v (av_assign rfl) ?_
        refine awl_nil (ranged ?_)
        intro w0 X ex hm hX hxe
        have hT := hT.mono hm
        refine awc_block (awc_seq ?_)
        refine awc_region ?_
        refine awl_v (av_move rfl) ?_
        obtain ⟨x13, e14, hr⟩ := bnd_some hr
        refine awl_v (av_call ((fCut_runs e14).t hT) ent19 rfl rfl) ?_
        refine awl_v (av_move rfl) ?_
        refine awl_v (av_extract rfl rfl) ?_
        refine awl_v (av_extract rfl rfl) ?_
        refine awl_v (av_extract rfl rfl) ?_
        refine awl_op (aop_alloc zero9 rfl ?_)
        refine awl_op (aop_store sz9 rfl rfl rfl rfl rfl rfl rfl ?_)
        refine awl_v (av_assign rfl) ?_
        refine awl_v (av_assign rfl) ?_
        refine awl_nil (athen_norm (awc_seq ?_))
        refine awc_region ?_
        obtain ⟨x15, e16, hr⟩ := bnd_some hr
        refine awl_v (av_call (fp15_runs e16).x ent15 rfl rfl) ?_
        refine awl_op (aop_alloc zero44 rfl ?_)
        refine awl_op (aop_store (cs' := expl (.arr 13 Y2) x15) sz44 rfl rfl rfl rfl (explG_beq rfl) rfl (over_full rfl) ?_)
        refine awl_nil (athen_norm (awc_seq ?_))
        refine awc_wk (wk_of (st' := ⟨[(0, .str p0), (2, .ptr 0 0), (3, .ptr 1 0), (4, .ptr 2 0), (18, .fn 61 [] [.rp [.str ([44, 32] : Str)], .ptr 3 0, .rp [.int .i64 0]]), (19, .str y12), (5, .str y12), (21, .str y12), (22, .tup [.str x13.1, .str x13.2.1, .bool x13.2.2]), (20, .tup [.str x13.1, .str x13.2.1, .bool x13.2.2]), (23, .str x13.1), (24, .str x13.2.1), (25, .bool x13.2.2), (6, .ptr 5 0), (7, .str x13.2.1), (8, .bool x13.2.2), (26, .agg (expl (.arr 13 Y2) x15)), (9, .rp (expl (.arr 13 Y2) x15))], [(0, .var 22 [.nils]), (1, .var 26 [.int .i64 0]), (2, .var 22 [.osl 4]), (3, .dead), (4, .sl 37 Y1 s6), (5, .var 9 [.str x13.1])], 6⟩) hX [0, 1, 2, 3, 4, 5] 4 rfl rfl ⟨⟨_, rfl, cv0⟩, ⟨_, rfl, cv0⟩, ⟨_, rfl, cv0⟩, ⟨_, rfl, cv0⟩, ⟨_, rfl, cv0⟩, ⟨_, rfl, cv0⟩, ⟨_, rfl, cv0⟩, ⟨_, rfl, cv0⟩, ⟨_, rfl, cv0⟩, ⟨_, rfl, cv0⟩, ⟨_, rfl, cv0⟩, ⟨_, rfl, cv0⟩, ⟨_, rfl, cv0⟩, ⟨_, rfl, cv0⟩, ⟨_, rfl, cv0⟩, ⟨_, rfl, cv0⟩, ⟨_, rfl, cv0⟩, ⟨_, rfl, cv0⟩, trivial⟩ ⟨cvo0, cvo0, cvo0, cvo0, cvo0, cvo0, trivial⟩) ?_
        refine awc_region ?_
        obtain ⟨h17, hr⟩ := chk_some hr
        obtain ⟨h18, hr⟩ := chk_some hr
        refine awl_v (av_slice_rarrG (e := Y2) (n := 13) (h := 13) und44 sz43 rfl (fit_arrG rfl h17) rfl h18 rfl) ?_
        refine awl_v (av_makeFunc (us := []) (vs := [.ptr 5 0]) rfl rfl) ?_
        obtain ⟨x19, e20, hr⟩ := bnd_some hr
        refine awl_v (av_callB (as' := [.sl Y2 (x15.take (Int.toNat 13)), .fn 21 [] [.ptr 5 0]]) (fp20_runs (g1 := 21) (c1s := [.rp [.str x13.1]]) (fun _ r h => fp21_runs h) ⟨ent21⟩ e20).x ent20 rfl ⟨cv0, (cv3 rfl), trivial⟩ rfl rfl) ?_
        refine awl_v (av_assign rfl) ?_
        refine awl_nil (athen_norm (awc_seq (awc_seq ?_)))
        refine awc_region ?_
        refine awl_v (av_move rfl) ?_
        refine awl_v (av_lss rfl rfl) ?_
        refine awl_nil (athen_norm ?_)
        refine awc_cond (b := decide (x19 < 0)) rfl (fun hc21 => ?_) (fun hc21 => ?_)
        · have hr := if_t hc21 hr
          refine awc_seq ?_
          refine awc_region ?_
          refine awl_op (aop_store sz22 rfl rfl rfl rfl rfl rfl rfl ?_)
          refine awl_op (aop_store sz26 rfl rfl rfl rfl rfl rfl rfl ?_)
          have hr := Option.some.inj hr
          subst hr
          exact awl_nil (athen_norm (awc_ret (athen_ret (ablock_ret (⟨rfl, (wk_of hX [0, 1, 2, 3, 4] 4 rfl rfl trivial ⟨cvo0, cvo0, cvo0, cvo0, cvo0, trivial⟩)⟩)))))
        · have hr := if_f hc21 hr
          refine awc_skip (athen_norm (awc_seq ?_))
          refine awc_region ?_
          refine awl_v (av_move rfl) ?_
          obtain ⟨x22, e23, hr⟩ := bnd_some hr
          refine awl_v (av_ia_rarrG (e := Y2) und44 sz43 rfl rfl e23) ?_
          refine awl_v (av_fa_rp fa43_1 rfl rfl) ?_
          refine awl_v (av_load_rp ts41 rfl) ?_
          refine awl_v (av_move rfl) ?_
          obtain ⟨x24, e25, hr⟩ := bnd_some hr
          refine awl_v (av_call (fp22_runs e25).x ent22 rfl rfl) ?_
          refine awl_v (av_add rfl rfl) ?_
          refine awl_v (av_assign rfl) ?_
          refine awl_nil (athen_norm ?_)
          obtain ⟨o27, e28, hr⟩ := bnd_some hr
          refine awc_join (S := Int) (R := Unit) (fun s => match s with | s26 => (⟨[(0, .str p0), (2, .ptr 0 0), (3, .ptr 1 0), (4, .ptr 2 0), (5, .str y12), (10, .int .i64 x19), (11, .int .i64 s26), (19, .str y12)], [(0, .var 22 [.nils]), (1, .var 26 [.int .i64 0]), (2, .var 22 [.osl 4]), (3, .dead), (4, .sl 37 Y1 s6)], 5⟩ : AS)) (fun _ _ _ => False) e28 (fun hr => ?_) ?_ ?_
          · refine awc_seq ?_
            refine awc_region ?_
            refine awl_v (av_move rfl) ?_
            refine awl_v (av_ia_rarrG (e := Y2) und44 sz43 rfl rfl e23) ?_
            refine awl_v (av_fa_rp fa43_1 rfl rfl) ?_
            refine awl_v (av_load_rp ts41 rfl) ?_
            refine awl_v (av_len_sl (t := .str) rfl rfl und41 rfl) ?_
            refine awl_v (av_eql rfl rfl) ?_
            refine awl_nil (athen_norm ?_)
            refine awc_cond (b := decide ((List.length x22.2.1 : Int) = 0)) rfl (fun hc29 => ?_) (fun hc29 => ?_)
            · have hr := if_t hc29 hr
              refine awc_region ?_
              refine awl_v (av_move rfl) ?_
              obtain ⟨x30, e31, hr⟩ := bnd_some hr
              refine awl_v (av_call ((fAtoi_runs e31).t hT) ent23 rfl rfl) ?_
              refine awl_v (av_move rfl) ?_
              refine awl_v (av_extract rfl rfl) ?_
              refine awl_v (av_extract rfl rfl) ?_
              refine awl_v (av_assign rfl) ?_
              have hr := Option.some.inj hr
              subst hr
              exact awl_nil ((wk_of hX [0, 1, 2, 3, 4] 4 rfl rfl ⟨⟨_, rfl, cv0⟩, ⟨_, rfl, cv0⟩, ⟨_, rfl, cv0⟩, ⟨_, rfl, cv0⟩, ⟨_, rfl, cv0⟩, ⟨_, rfl, cv0⟩, ⟨_, rfl, cv0⟩, ⟨_, rfl, cv0⟩, trivial⟩ ⟨cvo0, cvo0, cvo0, cvo0, cvo0, trivial⟩))
            · have hr := if_f hc29 hr
              have hr := Option.some.inj hr
              subst hr
              exact awc_skip ((wk_of hX [0, 1, 2, 3, 4] 4 rfl rfl ⟨⟨_, rfl, cv0⟩, ⟨_, rfl, cv0⟩, ⟨_, rfl, cv0⟩, ⟨_, rfl, cv0⟩, ⟨_, rfl, cv0⟩, ⟨_, rfl, cv0⟩, ⟨_, rfl, cv0⟩, ⟨_, rfl, cv0⟩, trivial⟩ ⟨cvo0, cvo0, cvo0, cvo0, cvo0, trivial⟩))
          · rintro s26 rfl
            refine awc_region ?_
            refine awl_v (av_load_ptr ts22 rfl rfl rfl) ?_
            refine awl_v (av_move rfl) ?_
            refine awl_v (av_add rfl rfl) ?_
            refine awl_v (av_move rfl) ?_
            refine awl_v (av_build (qs := [(0, [.int .i64 (w64 (x19 + 1))]), (1, [.int .i64 s26])]) (cs := [.int .i64 (w64 (x19 + 1)), .int .i64 s26]) bt37 rfl rfl rfl) ?_
            refine awl_v (av_buildSlice (t := Y1) (qs := [(0, [.int .i64 (w64 (x19 + 1)), .int .i64 s26])]) (ys := [((w64 (x19 + 1)), s26)]) bs22 rfl rfl rfl rfl rfl rfl rfl rfl) ?_
            obtain ⟨h32, hr⟩ := chk_some hr
            refine awl_op (aop_append rfl rfl app22 rfl rfl rfl h32 rfl ?_)
            refine awl_op (aop_store sz22 rfl rfl rfl rfl rfl rfl rfl ?_)
            have hr := Option.some.inj hr
            subst hr
            exact awl_nil (ablock_norm (⟨rfl, (wk_of hX [0, 1, 2, 3, 5] 4 rfl rfl trivial ⟨cvo0, cvo0, cvo0, cvo0, cvo0, trivial⟩)⟩))
          · exact fun r h e st hne hx => hx.elim
      · rintro s6 rfl
        refine ablock_norm (athen_norm (awc_seq (awc_seq ?_)))
        obtain ⟨x33, e34, hr⟩ := bnd_some hr
        obtain ⟨h35, hr⟩ := chk_some hr
        refine awc_text [0, 2, 3, 4] [(true, .osl 4), (true, .bool x33), (true, .bool (!x33)), (true, .bool (!x33)), (!(!x33), .osl 4), (!(!x33), .str ((fp6 s6).getD default)), (!(!x33), .str p0), (!(!x33), .bool (!decide (((fp6 s6).getD default) = p0))), (true, .bool ((!x33) || (!decide (((fp6 s6).getD default) = p0))))] [[], [0], [1], [2], [3], [4, 3], [3], [5, 6, 3], [7, 3]] [8] rfl rfl rfl rfl rfl ⟨?_, ?_, ?_, ?_, ?_, ?_, ?_, ?_, ?_, trivial⟩ (allT_of ⟨rfl, trivial⟩) ?_
        · exact ob_v rfl (fun hg => allT_of trivial) (fun hg => av_load_ptr ts22 rfl rfl rfl)
        · exact ob_v rfl (fun hg => allT_of ⟨rfl, trivial⟩) (fun hg => av_callB (as' := [.osl 4]) (fp14_runs e34).x ent14 rfl ⟨cv0, trivial⟩ rfl rfl)
        · exact ob_v rfl (fun hg => allT_of ⟨rfl, trivial⟩) (fun hg => av_not rfl)
        · exact ob_v rfl (fun hg => allT_of ⟨rfl, trivial⟩) (fun hg => av_move rfl)
        · exact ob_v ⟨rfl, rfl, rfl, _, rfl, rfl⟩ (fun hg => allT_of ⟨rfl, trivial⟩) (fun hg => av_load_ptr ts22 rfl rfl rfl)
        · exact ob_v ⟨rfl, rfl, rfl, _, rfl, rfl⟩ (fun hg => allT_of ⟨hg, rfl, trivial⟩) (fun hg => av_callB (as' := [.osl 4]) ((fp6_runs (get_g h35 hg)).t hT) ent6 rfl ⟨cv0, trivial⟩ rfl rfl)
        · exact ob_v ⟨rfl, rfl, rfl, _, rfl, rfl⟩ (fun hg => allT_of ⟨rfl, trivial⟩) (fun hg => av_move rfl)
        · exact ob_v ⟨rfl, rfl, rfl, _, rfl, rfl⟩ (fun hg => allT_of ⟨hg, hg, rfl, trivial⟩) (fun hg => av_neqs rfl rfl)
        · exact ob_pick (b := false) (p := !x33) (q := !decide (((fp6 s6).getD default) = p0)) rfl rfl rfl (fun hg => allT_of ⟨rfl, trivial⟩) rfl rfl rfl rfl rfl
        refine athen_norm ?_
        refine awc_cond (b := (!x33) || (!decide (((fp6 s6).getD default) = p0))) rfl (fun hc36 => ?_) (fun hc36 => ?_)
        · have hr := if_t hc36 hr
          refine awc_seq ?_
          refine awc_region ?_
          refine awl_op (aop_store sz22 rfl rfl rfl rfl rfl rfl rfl ?_)
          refine awl_op (aop_store sz26 rfl rfl rfl rfl rfl rfl rfl ?_)
          have hr := Option.some.inj hr
          subst hr
          exact awl_nil (athen_norm (awc_ret (athen_ret (ret_q (l' := [(2, .rp [.sl Y1 ([] : List (Int × Int))]), (3, .rp [.int .i64 2])]) (Wk.trans (wk_of (st' := ⟨[(2, .ptr 0 0), (3, .ptr 1 0)], [(0, .var 22 [.sl Y1 ([] : List (Int × Int))]), (1, .var 26 [.int .i64 2]), (2, .var 22 [.osl 4]), (3, .dead), (4, .sl 37 Y1 s6)], 5⟩) hX [0, 1, 2, 3, 4] 4 rfl rfl ⟨⟨_, rfl, cv0⟩, ⟨_, rfl, cv0⟩, trivial⟩ ⟨cvo1 ⟨cv2, trivial⟩, cvo0, cvo0, cvo0, cvo0, trivial⟩) (wk_of hX [] 4 rfl rfl ⟨⟨_, rfl, cv0⟩, ⟨_, rfl, cv0⟩, trivial⟩ trivial)) rfl ⟨(.inl ⟨_, rfl, ts22⟩), (.inl ⟨_, rfl, ts26⟩), trivial⟩))))
        · have hr := if_f hc36 hr
          refine awc_skip (athen_norm (awc_seq ?_))
          refine awc_region ?_
          refine awl_v (av_load_ptr ts22 rfl rfl rfl) ?_
          refine awl_op (aop_store sz22 rfl rfl rfl rfl rfl rfl rfl ?_)
          refine awl_op (aop_store sz26 rfl rfl rfl rfl rfl rfl rfl ?_)
          have hr := Option.some.inj hr
          subst hr
          exact awl_nil (athen_norm (awc_ret (ret_q (l' := [(2, .rp [.sl Y1 s6]), (3, .rp [.int .i64 0])]) (wk_of hX [] 4 rfl rfl ⟨⟨_, rfl, cv0⟩, ⟨_, rfl, cv0⟩, trivial⟩ trivial) rfl ⟨(.inl ⟨_, rfl, ts22⟩), (.inl ⟨_, rfl, ts26⟩), trivial⟩)))
      · rintro s9 rfl
        have hr := Option.some.inj hr
        subst hr
        exact ablock_ret (athen_ret (ret_q (l' := [(2, .rp [.sl Y1 ([] : List (Int × Int))]), (3, .rp [.int .i64 2])]) (Wk.trans (wk_of (st' := ⟨[(2, .ptr 0 0), (3, .ptr 1 0)], [(0, .var 22 [.sl Y1 ([] : List (Int × Int))]), (1, .var 26 [.int .i64 2]), (2, .var 22 [.osl 4]), (3, .dead), (4, .sl 37 Y1 s9)], 5⟩) hX [0, 1, 2, 3, 4] 4 rfl rfl ⟨⟨_, rfl, cv0⟩, ⟨_, rfl, cv0⟩, trivial⟩ ⟨cvo1 ⟨cv2, trivial⟩, cvo0, cvo0, cvo0, cvo0, trivial⟩) (wk_of hX [] 4 rfl rfl ⟨⟨_, rfl, cv0⟩, ⟨_, rfl, cv0⟩, trivial⟩ trivial)) rfl ⟨(.inl ⟨_, rfl, ts22⟩), (.inl ⟨_, rfl, ts26⟩), trivial⟩))
theorem fp25_runs {p0 : Int} {r : List Str} (hr : fp25 p0 = some r) : RunsP Tryz.prog 25 [.int .i64 p0] [.sl .str r] := by
  refine runs_w Tryz.func25 Tryz.ntmps25 rfl (rs := [.tmp 2]) rfl rfl fun w0 X hX => ?_
  refine awc_seq ?_
  refine awc_region ?_
  refine awl_v (av_assign rfl) ?_
  refine awl_nil (athen_norm (awc_seq (awc_seq ?_)))
  refine awc_region ?_
  refine awl_v (av_move rfl) ?_
  refine awl_nil (athen_norm (awc_block (awc_seq ?_)))
  refine awc_region ?_
  refine awl_v (av_eql rfl rfl) ?_
  refine awl_v (av_assign rfl) ?_
  refine awl_nil (athen_norm ?_)
  refine awc_cond (b := decide (p0 = 1)) rfl (fun hc1 => ?_) (fun hc1 => ?_)
  · have hr := if_t hc1 hr
    refine awc_seq ?_
    refine awc_region ?_
    refine awl_op (aop_buildSlice (t := .str) (qs := [(0, [.str ([116, 104, 114, 101, 97, 100] : Str)]), (1, [.str ([102, 114, 101, 101] : Str)]), (2, [.str ([115, 105, 110, 103, 108, 101] : Str)])]) (ys := [([116, 104, 114, 101, 97, 100] : Str), ([102, 114, 101, 101] : Str), ([115, 105, 110, 103, 108, 101] : Str)]) bs41 rfl rfl rfl rfl rfl rfl rfl rfl ?_)
    refine awl_v (av_assign rfl) ?_
    have hr := Option.some.inj hr
    subst hr
    exact awl_nil (athen_norm (awc_ret (ablock_ret (athen_ret (ret_q (l' := [(2, .sl .str [([116, 104, 114, 101, 97, 100] : Str), ([102, 114, 101, 101] : Str), ([115, 105, 110, 103, 108, 101] : Str)])]) (wk_of hX [] 4 rfl rfl ⟨⟨_, rfl, cv0⟩, trivial⟩ trivial) rfl ⟨rfl, trivial⟩)))))
  · have hr := if_f hc1 hr
    refine awc_seq ?_
    refine awc_region ?_
    refine awl_v (av_eql rfl rfl) ?_
    refine awl_v (av_assign rfl) ?_
    refine awl_nil (athen_norm ?_)
    refine awc_cond (b := decide (p0 = 2)) rfl (fun hc2 => ?_) (fun hc2 => ?_)
    · have hr := if_t hc2 hr
      refine awc_seq ?_
      refine awc_region ?_
      refine awl_op (aop_buildSlice (t := .str) (qs := [(0, [.str ([108, 105, 102, 101, 115, 112, 97, 110] : Str)]), (1, [.str ([116, 114, 97, 110, 115, 105, 101, 110, 116] : Str)]), (2, [.str ([112, 101, 114, 115, 105, 115, 116, 101, 110, 116] : Str)])]) (ys := [([108, 105, 102, 101, 115, 112, 97, 110] : Str), ([116, 114, 97, 110, 115, 105, 101, 110, 116] : Str), ([112, 101, 114, 115, 105, 115, 116, 101, 110, 116] : Str)]) bs41 rfl rfl rfl rfl rfl rfl rfl rfl ?_)
      refine awl_v (av_assign rfl) ?_
      have hr := Option.some.inj hr
      subst hr
      exact awl_nil (athen_norm (awc_ret (ablock_ret (athen_ret (ret_q (l' := [(2, .sl .str [([108, 105, 102, 101, 115, 112, 97, 110] : Str), ([116, 114, 97, 110, 115, 105, 101, 110, 116] : Str), ([112, 101, 114, 115, 105, 115, 116, 101, 110, 116] : Str)])]) (wk_of hX [] 4 rfl rfl ⟨⟨_, rfl, cv0⟩, trivial⟩ trivial) rfl ⟨rfl, trivial⟩)))))
    · have hr := if_f hc2 hr
      refine awc_seq ?_
      refine awc_region ?_
      refine awl_v (av_eql rfl rfl) ?_
      refine awl_v (av_assign rfl) ?_
      refine awl_nil (athen_norm ?_)
      refine awc_cond (b := decide (p0 = 3)) rfl (fun hc3 => ?_) (fun hc3 => ?_)
      · have hr := if_t hc3 hr
        refine awc_seq ?_
        refine awc_region ?_
        refine awl_op (aop_buildSlice (t := .str) (qs := [(0, [.str ([117, 110, 105, 113, 117, 101] : Str)]), (1, [.str ([117, 110, 105, 113, 117, 101] : Str)]), (2, [.str ([109, 117, 108, 116, 105, 112, 108, 101] : Str)])]) (ys := [([117, 110, 105, 113, 117, 101] : Str), ([117, 110, 105, 113, 117, 101] : Str), ([109, 117, 108, 116, 105, 112, 108, 101] : Str)]) bs41 rfl rfl rfl rfl rfl rfl rfl rfl ?_)
        refine awl_v (av_assign rfl) ?_
        have hr := Option.some.inj hr
        subst hr
        exact awl_nil (athen_norm (awc_ret (ablock_ret (athen_ret (ret_q (l' := [(2, .sl .str [([117, 110, 105, 113, 117, 101] : Str), ([117, 110, 105, 113, 117, 101] : Str), ([109, 117, 108, 116, 105, 112, 108, 101] : Str)])]) (wk_of hX [] 4 rfl rfl ⟨⟨_, rfl, cv0⟩, trivial⟩ trivial) rfl ⟨rfl, trivial⟩)))))
      · have hr := if_f hc3 hr
        refine awc_seq ?_
        refine awc_region ?_
        refine awl_v (av_eql rfl rfl) ?_
        refine awl_v (av_assign rfl) ?_
        refine awl_nil (athen_norm ?_)
        refine awc_cond (b := decide (p0 = 4)) rfl (fun hc4 => ?_) (fun hc4 => ?_)
        · have hr := if_t hc4 hr
          refine awc_seq ?_
          refine awc_region ?_
          refine awl_op (aop_buildSlice (t := .str) (qs := [(0, [.str ([97, 115, 115, 105, 103, 110] : Str)]), (1, [.str ([115, 121, 115, 116, 101, 109] : Str)]), (2, [.str ([117, 115, 101, 114] : Str)])]) (ys := [([97, 115, 115, 105, 103, 110] : Str), ([115, 121, 115, 116, 101, 109] : Str), ([117, 115, 101, 114] : Str)]) bs41 rfl rfl rfl rfl rfl rfl rfl rfl ?_)
          refine awl_v (av_assign rfl) ?_
          have hr := Option.some.inj hr
          subst hr
          exact awl_nil (athen_norm (awc_ret (ablock_ret (athen_ret (ret_q (l' := [(2, .sl .str [([97, 115, 115, 105, 103, 110] : Str), ([115, 121, 115, 116, 101, 109] : Str), ([117, 115, 101, 114] : Str)])]) (wk_of hX [] 4 rfl rfl ⟨⟨_, rfl, cv0⟩, trivial⟩ trivial) rfl ⟨rfl, trivial⟩)))))
        · have hr := if_f hc4 hr
          refine awc_seq ?_
          refine awc_region ?_
          refine awl_v (av_eql rfl rfl) ?_
          refine awl_v (av_assign rfl) ?_
          refine awl_nil (athen_norm ?_)
          refine awc_cond (b := decide (p0 = 5)) rfl (fun hc5 => ?_) (fun hc5 => ?_)
          · have hr := if_t hc5 hr
            refine awc_seq ?_
            refine awc_region ?_
            refine awl_op (aop_buildSlice (t := .str) (qs := [(0, [.str ([114, 101, 116, 97, 105, 110] : Str)]), (1, [.str ([114, 101, 116, 97, 105, 110] : Str)]), (2, [.str ([102, 111, 114, 103, 101, 116] : Str)])]) (ys := [([114, 101, 116, 97, 105, 110] : Str), ([114, 101, 116, 97, 105, 110] : Str), ([102, 111, 114, 103, 101, 116] : Str)]) bs41 rfl rfl rfl rfl rfl rfl rfl rfl ?_)
            refine awl_v (av_assign rfl) ?_
            have hr := Option.some.inj hr
            subst hr
            exact awl_nil (athen_norm (awc_ret (ablock_ret (athen_ret (ret_q (l' := [(2, .sl .str [([114, 101, 116, 97, 105, 110] : Str), ([114, 101, 116, 97, 105, 110] : Str), ([102, 111, 114, 103, 101, 116] : Str)])]) (wk_of hX [] 4 rfl rfl ⟨⟨_, rfl, cv0⟩, trivial⟩ trivial) rfl ⟨rfl, trivial⟩)))))
          · have hr := if_f hc5 hr
            refine awc_seq ?_
            refine awc_region ?_
            refine awl_v (av_eql rfl rfl) ?_
            refine awl_v (av_assign rfl) ?_
            refine awl_nil (athen_norm ?_)
            refine awc_cond (b := decide (p0 = 6)) rfl (fun hc6 => ?_) (fun hc6 => ?_)
            · have hr := if_t hc6 hr
              refine awc_seq ?_
              refine awc_region ?_
              refine awl_op (aop_buildSlice (t := .str) (qs := [(0, [.str ([112, 114, 111, 99, 101, 115, 115] : Str)]), (1, [.str ([109, 97, 112] : Str)]), (2, [.str ([100, 101, 102, 97, 117, 108, 116] : Str)]), (3, [.str ([109, 97, 110, 97, 103, 101, 114] : Str)])]) (ys := [([112, 114, 111, 99, 101, 115, 115] : Str), ([109, 97, 112] : Str), ([100, 101, 102, 97, 117, 108, 116] : Str), ([109, 97, 110, 97, 103, 101, 114] : Str)]) bs41 rfl rfl rfl rfl rfl rfl rfl rfl ?_)
              refine awl_v (av_assign rfl) ?_
              have hr := Option.some.inj hr
              subst hr
              exact awl_nil (athen_norm (awc_ret (ablock_ret (athen_ret (ret_q (l' := [(2, .sl .str [([112, 114, 111, 99, 101, 115, 115] : Str), ([109, 97, 112] : Str), ([100, 101, 102, 97, 117, 108, 116] : Str), ([109, 97, 110, 97, 103, 101, 114] : Str)])]) (wk_of hX [] 4 rfl rfl ⟨⟨_, rfl, cv0⟩, trivial⟩ trivial) rfl ⟨rfl, trivial⟩)))))
            · have hr := if_f hc6 hr
              refine awc_seq ?_
              refine awc_region ?_
              refine awl_v (av_eql rfl rfl) ?_
              refine awl_v (av_assign rfl) ?_
              refine awl_nil (athen_norm ?_)
              refine awc_cond (b := decide (p0 = 7)) rfl (fun hc7 => ?_) (fun hc7 => ?_)
              · have hr := if_t hc7 hr
                refine awc_seq ?_
                refine awc_region ?_
                refine awl_op (aop_buildSlice (t := .str) (qs := [(0, [.str ([97, 99, 116, 105, 118, 97, 116, 101] : Str)]), (1, [.str ([101, 120, 112, 108, 105, 99, 105, 116] : Str)]), (2, [.str ([105, 109, 112, 108, 105, 99, 105, 116] : Str)])]) (ys := [([97, 99, 116, 105, 118, 97, 116, 101] : Str), ([101, 120, 112, 108, 105, 99, 105, 116] : Str), ([105, 109, 112, 108, 105, 99, 105, 116] : Str)]) bs41 rfl rfl rfl rfl rfl rfl rfl rfl ?_)
                refine awl_v (av_assign rfl) ?_
                have hr := Option.some.inj hr
                subst hr
                exact awl_nil (athen_norm (awc_ret (ablock_ret (athen_ret (ret_q (l' := [(2, .sl .str [([97, 99, 116, 105, 118, 97, 116, 101] : Str), ([101, 120, 112, 108, 105, 99, 105, 116] : Str), ([105, 109, 112, 108, 105, 99, 105, 116] : Str)])]) (wk_of hX [] 4 rfl rfl ⟨⟨_, rfl, cv0⟩, trivial⟩ trivial) rfl ⟨rfl, trivial⟩)))))
              · have hr := if_f hc7 hr
                refine awc_seq ?_
                refine awc_region ?_
                refine awl_v (av_eql rfl rfl) ?_
                refine awl_v (av_assign rfl) ?_
                refine awl_nil (athen_norm ?_)
                refine awc_cond (b := decide (p0 = 8)) rfl (fun hc8 => ?_) (fun hc8 => ?_)
                · have hr := if_t hc8 hr
                  refine awc_seq ?_
                  refine awc_region ?_
                  refine awl_op (aop_buildSlice (t := .str) (qs := [(0, [.str ([114, 101, 98, 105, 110, 100] : Str)]), (1, [.str ([116, 114, 97, 110, 115, 112, 97, 114, 101, 110, 116] : Str)]), (2, [.str ([107, 101, 101, 112] : Str)]), (3, [.str ([110, 101, 118, 101, 114] : Str)])]) (ys := [([114, 101, 98, 105, 110, 100] : Str), ([116, 114, 97, 110, 115, 112, 97, 114, 101, 110, 116] : Str), ([107, 101, 101, 112] : Str), ([110, 101, 118, 101, 114] : Str)]) bs41 rfl rfl rfl rfl rfl rfl rfl rfl ?_)
                  refine awl_v (av_assign rfl) ?_
                  have hr := Option.some.inj hr
                  subst hr
                  exact awl_nil (athen_norm (awc_ret (ablock_ret (athen_ret (ret_q (l' := [(2, .sl .str [([114, 101, 98, 105, 110, 100] : Str), ([116, 114, 97, 110, 115, 112, 97, 114, 101, 110, 116] : Str), ([107, 101, 101, 112] : Str), ([110, 101, 118, 101, 114] : Str)])]) (wk_of hX [] 4 rfl rfl ⟨⟨_, rfl, cv0⟩, trivial⟩ trivial) rfl ⟨rfl, trivial⟩)))))
                · have hr := if_f hc8 hr
                  refine awc_seq ?_
                  refine awc_region ?_
                  refine awl_v (av_eql rfl rfl) ?_
                  refine awl_v (av_assign rfl) ?_
                  refine awl_nil (athen_norm ?_)
                  refine awc_cond (b := decide (p0 = 9)) rfl (fun hc9 => ?_) (fun hc9 => ?_)
                  · have hr := if_t hc9 hr
                    refine awc_seq ?_
                    refine awc_region ?_
                    refine awl_op (aop_buildSlice (t := .str) (qs := [(0, [.str ([99, 101, 114, 116, 97, 105, 110, 116, 121] : Str)]), (1, [.str ([115, 101, 110, 116] : Str)]), (2, [.str ([110, 111, 110, 101] : Str)]), (3, [.str ([115, 101, 114, 118, 101, 114] : Str)]), (4, [.str ([100, 111, 110, 101] : Str)])]) (ys := [([99, 101, 114, 116, 97, 105, 110, 116, 121] : Str), ([115, 101, 110, 116] : Str), ([110, 111, 110, 101] : Str), ([115, 101, 114, 118, 101, 114] : Str), ([100, 111, 110, 101] : Str)]) bs41 rfl rfl rfl rfl rfl rfl rfl rfl ?_)
                    refine awl_v (av_assign rfl) ?_
                    have hr := Option.some.inj hr
                    subst hr
                    exact awl_nil (athen_norm (awc_ret (ablock_ret (athen_ret (ret_q (l' := [(2, .sl .str [([99, 101, 114, 116, 97, 105, 110, 116, 121] : Str), ([115, 101, 110, 116] : Str), ([110, 111, 110, 101] : Str), ([115, 101, 114, 118, 101, 114] : Str), ([100, 111, 110, 101] : Str)])]) (wk_of hX [] 4 rfl rfl ⟨⟨_, rfl, cv0⟩, trivial⟩ trivial) rfl ⟨rfl, trivial⟩)))))
                  · have hr := if_f hc9 hr
                    refine awc_seq ?_
                    refine awc_region ?_
                    refine awl_v (av_eql rfl rfl) ?_
                    refine awl_v (av_assign rfl) ?_
                    refine awl_nil (athen_norm ?_)
                    refine awc_cond (b := decide (p0 = 10)) rfl (fun hc10 => ?_) (fun hc10 => ?_)
                    · have hr := if_t hc10 hr
                      refine awc_seq ?_
                      refine awc_region ?_
                      refine awl_op (aop_buildSlice (t := .str) (qs := [(0, [.str ([108, 105, 109, 105, 116] : Str)])]) (ys := [([108, 105, 109, 105, 116] : Str)]) bs41 rfl rfl rfl rfl rfl rfl rfl rfl ?_)
                      refine awl_v (av_assign rfl) ?_
                      have hr := Option.some.inj hr
                      subst hr
                      exact awl_nil (athen_norm (awc_ret (ablock_ret (athen_ret (ret_q (l' := [(2, .sl .str [([108, 105, 109, 105, 116] : Str)])]) (wk_of hX [] 4 rfl rfl ⟨⟨_, rfl, cv0⟩, trivial⟩ trivial) rfl ⟨rfl, trivial⟩)))))
                    · have hr := if_f hc10 hr
                      refine awc_seq ?_
                      refine awc_region ?_
                      refine awl_v (av_eql rfl rfl) ?_
                      refine awl_v (av_assign rfl) ?_
                      refine awl_nil (athen_norm ?_)
                      refine awc_cond (b := decide (p0 = 11)) rfl (fun hc11 => ?_) (fun hc11 => ?_)
                      · have hr := if_t hc11 hr
                        refine awc_seq ?_
                        refine awc_region ?_
                        refine awl_op (aop_buildSlice (t := .str) (qs := [(0, [.str ([114, 111, 117, 116, 101] : Str)]), (1, [.str ([100, 105, 114, 101, 99, 116] : Str)]), (2, [.str ([102, 111, 114, 119, 97, 114, 100] : Str)]), (3, [.str ([115, 116, 111, 114, 101] : Str)])]) (ys := [([114, 111, 117, 116, 101] : Str), ([100, 105, 114, 101, 99, 116] : Str), ([102, 111, 114, 119, 97, 114, 100] : Str), ([115, 116, 111, 114, 101] : Str)]) bs41 rfl rfl rfl rfl rfl rfl rfl rfl ?_)
                        refine awl_v (av_assign rfl) ?_
                        have hr := Option.some.inj hr
                        subst hr
                        exact awl_nil (athen_norm (awc_ret (ablock_ret (athen_ret (ret_q (l' := [(2, .sl .str [([114, 111, 117, 116, 101] : Str), ([100, 105, 114, 101, 99, 116] : Str), ([102, 111, 114, 119, 97, 114, 100] : Str), ([115, 116, 111, 114, 101] : Str)])]) (wk_of hX [] 4 rfl rfl ⟨⟨_, rfl, cv0⟩, trivial⟩ trivial) rfl ⟨rfl, trivial⟩)))))
                      · have hr := if_f hc11 hr
                        refine awc_seq ?_
                        refine awc_region ?_
                        refine awl_v (av_eql rfl rfl) ?_
                        refine awl_v (av_assign rfl) ?_
                        refine awl_nil (athen_norm ?_)
                        refine awc_cond (b := decide (p0 = 12)) rfl (fun hc12 => ?_) (fun hc12 => ?_)
                        · have hr := if_t hc12 hr
                          refine awc_seq ?_
                          refine awc_region ?_
                          refine awl_op (aop_buildSlice (t := .str) (qs := [(0, [.str ([112, 114, 105, 111, 114, 105, 116, 121] : Str)])]) (ys := [([112, 114, 105, 111, 114, 105, 116, 121] : Str)]) bs41 rfl rfl rfl rfl rfl rfl rfl rfl ?_)
                          refine awl_v (av_assign rfl) ?_
                          have hr := Option.some.inj hr
                          subst hr
                          exact awl_nil (athen_norm (awc_ret (ablock_ret (athen_ret (ret_q (l' := [(2, .sl .str [([112, 114, 105, 111, 114, 105, 116, 121] : Str)])]) (wk_of hX [] 4 rfl rfl ⟨⟨_, rfl, cv0⟩, trivial⟩ trivial) rfl ⟨rfl, trivial⟩)))))
                        · have hr := if_f hc12 hr
                          refine awc_seq ?_
                          refine awc_region ?_
                          refine awl_v (av_eql rfl rfl) ?_
                          refine awl_v (av_assign rfl) ?_
                          refine awl_nil (athen_norm ?_)
                          refine awc_cond (b := decide (p0 = 13)) rfl (fun hc13 => ?_) (fun hc13 => ?_)
                          · have hr := if_t hc13 hr
                            refine awc_seq ?_
                            refine awc_region ?_
                            refine awl_op (aop_buildSlice (t := .str) (qs := [(0, [.str ([111, 114, 100, 101, 114] : Str)]), (1, [.str ([97, 110, 121] : Str)]), (2, [.str ([116, 105, 109, 101] : Str)]), (3, [.str ([112, 114, 105, 111, 114, 105, 116, 121] : Str)]), (4, [.str ([100, 101, 97, 100, 108, 105, 110, 101] : Str)])]) (ys := [([111, 114, 100, 101, 114] : Str), ([97, 110, 121] : Str), ([116, 105, 109, 101] : Str), ([112, 114, 105, 111, 114, 105, 116, 121] : Str), ([100, 101, 97, 100, 108, 105, 110, 101] : Str)]) bs41 rfl rfl rfl rfl rfl rfl rfl rfl ?_)
                            refine awl_v (av_assign rfl) ?_
                            have hr := Option.some.inj hr
                            subst hr
                            exact awl_nil (athen_norm (awc_ret (ablock_ret (athen_ret (ret_q (l' := [(2, .sl .str [([111, 114, 100, 101, 114] : Str), ([97, 110, 121] : Str), ([116, 105, 109, 101] : Str), ([112, 114, 105, 111, 114, 105, 116, 121] : Str), ([100, 101, 97, 100, 108, 105, 110, 101] : Str)])]) (wk_of hX [] 4 rfl rfl ⟨⟨_, rfl, cv0⟩, trivial⟩ trivial) rfl ⟨rfl, trivial⟩)))))
                          · have hr := if_f hc13 hr
                            refine awc_skip (ablock_norm (athen_norm (awc_seq ?_)))
                            refine awc_region ?_
                            refine awl_v (av_assign rfl) ?_
                            have hr := Option.some.inj hr
                            subst hr
                            exact awl_nil (athen_norm (awc_ret (ret_q (l' := [(2, .sl .str ([] : List Str))]) (wk_of hX [] 4 rfl rfl ⟨⟨_, rfl, cv2⟩, trivial⟩ trivial) rfl ⟨rfl, trivial⟩)))
theorem fp46_runs {p0 : Int} {r : Bool} (hr : fp46 p0 = some r) : RunsP Tryz.prog 46 [.int .i64 p0] [.bool r] := by
  refine runs_w Tryz.func46 Tryz.ntmps46 rfl (rs := [.tmp 2]) rfl rfl fun w0 X hX => ?_
  refine awc_seq ?_
  refine awc_region ?_
  refine awl_v (av_assign rfl) ?_
  refine awl_nil (athen_norm (awc_seq ?_))
  refine awc_text [0] [(true, .int .i64 p0), (true, .bool (decide (1 ≤ p0))), (true, .bool (decide (1 ≤ p0))), (decide (1 ≤ p0), .int .i64 p0), (decide (1 ≤ p0), .bool (decide (p0 ≤ 13))), (true, .bool ((decide (1 ≤ p0)) && (decide (p0 ≤ 13)))), (true, .bool ((decide (1 ≤ p0)) && (decide (p0 ≤ 13))))] [[], [0], [1], [2], [3, 2], [4, 2], [5]] [6] rfl rfl rfl rfl rfl ⟨?_, ?_, ?_, ?_, ?_, ?_, ?_, trivial⟩ (allT_of ⟨rfl, trivial⟩) ?_
  · exact ob_v rfl (fun hg => allT_of trivial) (fun hg => av_move rfl)
  · exact ob_v rfl (fun hg => allT_of ⟨rfl, trivial⟩) (fun hg => av_geq rfl rfl)
  · exact ob_v rfl (fun hg => allT_of ⟨rfl, trivial⟩) (fun hg => av_move rfl)
  · exact ob_v ⟨rfl, rfl, rfl, _, rfl, rfl⟩ (fun hg => allT_of ⟨rfl, trivial⟩) (fun hg => av_move rfl)
  · exact ob_v ⟨rfl, rfl, rfl, _, rfl, rfl⟩ (fun hg => allT_of ⟨hg, rfl, trivial⟩) (fun hg => av_leq rfl rfl)
  · exact ob_pick (b := true) (p := decide (1 ≤ p0)) (q := decide (p0 ≤ 13)) rfl rfl rfl (fun hg => allT_of ⟨rfl, trivial⟩) rfl rfl rfl rfl rfl
  · exact ob_v rfl (fun hg => allT_of ⟨rfl, trivial⟩) (fun hg => av_assign rfl)
  have hr := Option.some.inj hr
  subst hr
  exact athen_norm (awc_ret (ret_q (l' := [(2, .bool ((decide (1 ≤ p0)) && (decide (p0 ≤ 13))))]) (wk_of hX [] 4 rfl rfl ⟨⟨_, rfl, cv0⟩, trivial⟩ trivial) rfl ⟨rfl, trivial⟩))
theorem fp26_runs {p0 : Int × Int} {r : Bool} (hr : fp26 p0 = some r) : RunsP Tryz.prog 26 [.agg [.int .i64 p0.1, .int .i64 p0.2]] [.bool r] := by
  refine runs_w Tryz.func26 Tryz.ntmps26 rfl (rs := [.tmp 2]) rfl rfl fun w0 X hX => ?_
  refine awc_seq ?_
  refine awc_region ?_
  refine awl_op (aop_box rfl rfl ?_)
  refine awl_v (av_assign rfl) ?_
  refine awl_nil (athen_norm (awc_seq (awc_block (awc_seq ?_))))
  refine awc_region ?_
  refine awl_v (av_fa_ptr fa37_0 rfl rfl) ?_
  refine awl_v (av_load_ptr ts3 rfl rfl rfl) ?_
  obtain ⟨x1, e2, hr⟩ := bnd_some hr
  refine awl_v (av_call (fp46_runs e2).x ent46 rfl rfl) ?_
  refine awl_v (av_not rfl) ?_
  refine awl_v (av_assign rfl) ?_
  refine awl_nil (athen_norm ?_)
  refine awc_cond (b := !x1) rfl (fun hc3 => ?_) (fun hc3 => ?_)
  · have hr := if_t hc3 hr
    refine awc_seq ?_
    refine awc_region ?_
    refine awl_v (av_assign rfl) ?_
    have hr := Option.some.inj hr
    subst hr
    exact awl_nil (athen_norm (awc_ret (ablock_ret (athen_ret (ret_q (l' := [(2, .bool false)]) (wk_of hX [] 4 rfl rfl ⟨⟨_, rfl, cv0⟩, trivial⟩ trivial) rfl ⟨rfl, trivial⟩)))))
  · have hr := if_f hc3 hr
    refine awc_seq ?_
    refine awc_region ?_
    refine awl_v (av_fa_ptr fa37_0 rfl rfl) ?_
    refine awl_v (av_load_ptr ts3 rfl rfl rfl) ?_
    refine awl_v (av_eql rfl rfl) ?_
    refine awl_v (av_assign rfl) ?_
    refine awl_nil (athen_norm ?_)
    refine awc_cond (b := decide (p0.1 = 10)) rfl (fun hc4 => ?_) (fun hc4 => ?_)
    · have hr := if_t hc4 hr
      refine awc_seq ?_
      refine awc_text [1] [(true, .ptr 0 1), (true, .int .i64 p0.2), (true, .bool (decide (0 ≤ p0.2))), (true, .bool (decide (0 ≤ p0.2))), (decide (0 ≤ p0.2), .ptr 0 1), (decide (0 ≤ p0.2), .int .i64 p0.2), (decide (0 ≤ p0.2), .bool (decide (p0.2 ≤ 1000000))), (true, .bool ((decide (0 ≤ p0.2)) && (decide (p0.2 ≤ 1000000)))), (true, .bool ((decide (0 ≤ p0.2)) && (decide (p0.2 ≤ 1000000))))] [[], [0], [1], [2], [3], [4, 3], [5, 3], [6, 3], [7]] [8] rfl rfl rfl rfl rfl ⟨?_, ?_, ?_, ?_, ?_, ?_, ?_, ?_, ?_, trivial⟩ (allT_of ⟨rfl, trivial⟩) ?_
      · exact ob_v rfl (fun hg => allT_of trivial) (fun hg => av_fa_ptr fa37_1 rfl rfl)
      · exact ob_v rfl (fun hg => allT_of ⟨rfl, trivial⟩) (fun hg => av_load_ptr ts3 rfl rfl rfl)
      · exact ob_v rfl (fun hg => allT_of ⟨rfl, trivial⟩) (fun hg => av_geq rfl rfl)
      · exact ob_v rfl (fun hg => allT_of ⟨rfl, trivial⟩) (fun hg => av_move rfl)
      · exact ob_v ⟨rfl, rfl, rfl, _, rfl, rfl⟩ (fun hg => allT_of ⟨rfl, trivial⟩) (fun hg => av_fa_ptr fa37_1 rfl rfl)
      · exact ob_v ⟨rfl, rfl, rfl, _, rfl, rfl⟩ (fun hg => allT_of ⟨hg, rfl, trivial⟩) (fun hg => av_load_ptr ts3 rfl rfl rfl)
      · exact ob_v ⟨rfl, rfl, rfl, _, rfl, rfl⟩ (fun hg => allT_of ⟨hg, rfl, trivial⟩) (fun hg => av_leq rfl rfl)
      · exact ob_pick (b := true) (p := decide (0 ≤ p0.2)) (q := decide (p0.2 ≤ 1000000)) rfl rfl rfl (fun hg => allT_of ⟨rfl, trivial⟩) rfl rfl rfl rfl rfl
      · exact ob_v rfl (fun hg => allT_of ⟨rfl, trivial⟩) (fun hg => av_assign rfl)
      have hr := Option.some.inj hr
      subst hr
      exact athen_norm (awc_ret (ablock_ret (athen_ret (ret_q (l' := [(2, .bool ((decide (0 ≤ p0.2)) && (decide (p0.2 ≤ 1000000))))]) (wk_of hX [] 4 rfl rfl ⟨⟨_, rfl, cv0⟩, trivial⟩ trivial) rfl ⟨rfl, trivial⟩))))
    · have hr := if_f hc4 hr
      refine awc_seq ?_
      refine awc_region ?_
      refine awl_v (av_fa_ptr fa37_0 rfl rfl) ?_
      refine awl_v (av_load_ptr ts3 rfl rfl rfl) ?_
      refine awl_v (av_eql rfl rfl) ?_
      refine awl_v (av_assign rfl) ?_
      refine awl_nil (athen_norm ?_)
      refine awc_cond (b := decide (p0.1 = 12)) rfl (fun hc5 => ?_) (fun hc5 => ?_)
      · have hr := if_t hc5 hr
        refine awc_seq ?_
        refine awc_text [1] [(true, .ptr 0 1), (true, .int .i64 p0.2), (true, .bool (decide (0 ≤ p0.2))), (true, .bool (decide (0 ≤ p0.2))), (decide (0 ≤ p0.2), .ptr 0 1), (decide (0 ≤ p0.2), .int .i64 p0.2), (decide (0 ≤ p0.2), .bool (decide (p0.2 ≤ 100))), (true, .bool ((decide (0 ≤ p0.2)) && (decide (p0.2 ≤ 100)))), (true, .bool ((decide (0 ≤ p0.2)) && (decide (p0.2 ≤ 100))))] [[], [0], [1], [2], [3], [4, 3], [5, 3], [6, 3], [7]] [8] rfl rfl rfl rfl rfl ⟨?_, ?_, ?_, ?_, ?_, ?_, ?_, ?_, ?_, trivial⟩ (allT_of ⟨rfl, trivial⟩) ?_
        · exact ob_v rfl (fun hg => allT_of trivial) (fun hg => av_fa_ptr fa37_1 rfl rfl)
        · exact ob_v rfl (fun hg => allT_of ⟨rfl, trivial⟩) (fun hg => av_load_ptr ts3 rfl rfl rfl)
        · exact ob_v rfl (fun hg => allT_of ⟨rfl, trivial⟩) (fun hg => av_geq rfl rfl)
        · exact ob_v rfl (fun hg => allT_of ⟨rfl, trivial⟩) (fun hg => av_move rfl)
        · exact ob_v ⟨rfl, rfl, rfl, _, rfl, rfl⟩ (fun hg => allT_of ⟨rfl, trivial⟩) (fun hg => av_fa_ptr fa37_1 rfl rfl)
        · exact ob_v ⟨rfl, rfl, rfl, _, rfl, rfl⟩ (fun hg => allT_of ⟨hg, rfl, trivial⟩) (fun hg => av_load_ptr ts3 rfl rfl rfl)
        · exact ob_v ⟨rfl, rfl, rfl, _, rfl, rfl⟩ (fun hg => allT_of ⟨hg, rfl, trivial⟩) (fun hg => av_leq rfl rfl)
        · exact ob_pick (b := true) (p := decide (0 ≤ p0.2)) (q := decide (p0.2 ≤ 100)) rfl rfl rfl (fun hg => allT_of ⟨rfl, trivial⟩) rfl rfl rfl rfl rfl
        · exact ob_v rfl (fun hg => allT_of ⟨rfl, trivial⟩) (fun hg => av_assign rfl)
        have hr := Option.some.inj hr
        subst hr
        exact athen_norm (awc_ret (ablock_ret (athen_ret (ret_q (l' := [(2, .bool ((decide (0 ≤ p0.2)) && (decide (p0.2 ≤ 100))))]) (wk_of hX [] 4 rfl rfl ⟨⟨_, rfl, cv0⟩, trivial⟩ trivial) rfl ⟨rfl, trivial⟩))))
      · have hr := if_f hc5 hr
        refine awc_skip (ablock_norm (athen_norm (awc_seq ?_)))
        obtain ⟨h6, hr⟩ := chk_some hr
        refine awc_draw mixed [1] [(true, .ptr 0 1), (true, .int .i64 p0.2), (true, .bool (decide (1 ≤ p0.2))), (true, .bool (decide (1 ≤ p0.2))), (decide (1 ≤ p0.2), .ptr 0 1), (decide (1 ≤ p0.2), .int .i64 p0.2), (decide (1 ≤ p0.2), .ptr 0 0), (decide (1 ≤ p0.2), .int .i64 p0.1), (decide (1 ≤ p0.2), .sl .str ((fp25 p0.1).getD default)), (decide (1 ≤ p0.2), .int .i64 (List.length ((fp25 p0.1).getD default) : Int)), (decide (1 ≤ p0.2), .bool (decide (p0.2 < (List.length ((fp25 p0.1).getD default) : Int)))), (true, .bool ((decide (1 ≤ p0.2)) && (decide (p0.2 < (List.length ((fp25 p0.1).getD default) : Int))))), (true, .bool ((decide (1 ≤ p0.2)) && (decide (p0.2 < (List.length ((fp25 p0.1).getD default) : Int)))))] [[], [0], [1], [2], [3], [4, 3], [3], [6, 3], [7, 3], [8, 3], [5, 9, 3], [10, 3], [11]] [12] rfl rfl rfl rfl rfl ⟨?_, ?_, ?_, ?_, ?_, ?_, ?_, ?_, ?_, ?_, ?_, ?_, ?_, trivial⟩ (allT_of ⟨rfl, trivial⟩) ?_
        · exact ob_v rfl (fun hg => allT_of trivial) (fun hg => av_fa_ptr fa37_1 rfl rfl)
        · exact ob_v rfl (fun hg => allT_of ⟨rfl, trivial⟩) (fun hg => av_load_ptr ts3 rfl rfl rfl)
        · exact ob_v rfl (fun hg => allT_of ⟨rfl, trivial⟩) (fun hg => av_geq rfl rfl)
        · exact ob_v rfl (fun hg => allT_of ⟨rfl, trivial⟩) (fun hg => av_move rfl)
        · exact ob_v ⟨rfl, rfl, rfl, _, rfl, rfl⟩ (fun hg => allT_of ⟨rfl, trivial⟩) (fun hg => av_fa_ptr fa37_1 rfl rfl)
        · exact ob_v ⟨rfl, rfl, rfl, _, rfl, rfl⟩ (fun hg => allT_of ⟨hg, rfl, trivial⟩) (fun hg => av_load_ptr ts3 rfl rfl rfl)
        · exact ob_v ⟨rfl, rfl, rfl, _, rfl, rfl⟩ (fun hg => allT_of ⟨rfl, trivial⟩) (fun hg => av_fa_ptr fa37_0 rfl rfl)
        · exact ob_v ⟨rfl, rfl, rfl, _, rfl, rfl⟩ (fun hg => allT_of ⟨hg, rfl, trivial⟩) (fun hg => av_load_ptr ts3 rfl rfl rfl)
        · exact ob_v ⟨rfl, rfl, rfl, _, rfl, rfl⟩ (fun hg => allT_of ⟨hg, rfl, trivial⟩) (fun hg => av_call (fp25_runs (get_g h6 hg)).x ent25 rfl rfl)
        · exact ob_v ⟨rfl, rfl, rfl, _, rfl, rfl⟩ (fun hg => allT_of ⟨hg, rfl, trivial⟩) (fun hg => av_len_sl (t := .str) rfl rfl und41 rfl)
        · exact ob_v ⟨rfl, rfl, rfl, _, rfl, rfl⟩ (fun hg => allT_of ⟨hg, hg, rfl, trivial⟩) (fun hg => av_lss rfl rfl)
        · exact ob_pick (b := true) (p := decide (1 ≤ p0.2)) (q := decide (p0.2 < (List.length ((fp25 p0.1).getD default) : Int))) rfl rfl rfl (fun hg => allT_of ⟨rfl, trivial⟩) rfl rfl rfl rfl rfl
        · exact ob_v rfl (fun hg => allT_of ⟨rfl, trivial⟩) (fun hg => av_assign rfl)
        have hr := Option.some.inj hr
        subst hr
        exact athen_norm (awc_ret (ret_q (l' := [(2, .bool ((decide (1 ≤ p0.2)) && (decide (p0.2 < (List.length ((fp25 p0.1).getD default) : Int)))))]) (wk_of hX [] 4 rfl rfl ⟨⟨_, rfl, cv0⟩, trivial⟩ trivial) rfl ⟨rfl, trivial⟩))
theorem fp11_runs {p0 : List (Int × Int)} {r : Bool} (hr : fp11 p0 = some r) : RunsP Tryz.prog 11 [.sl Y1 p0] [.bool r] := by
  refine runs_w Tryz.func11 Tryz.ntmps11 rfl (rs := [.tmp 2]) rfl rfl fun w0 X hX => ?_
  refine awc_seq ?_
  refine awc_region ?_
  refine awl_v (av_assign rfl) ?_
  refine awl_nil (athen_norm (awc_seq (awc_seq ?_)))
  refine awc_region ?_
  refine awl_v (av_move rfl) ?_
  refine awl_v (av_len_sl (t := Y1) rfl rfl und22 rfl) ?_
  refine awl_v (av_move rfl) ?_
  refine awl_nil (athen_norm (awc_block ?_))
  obtain ⟨o3, e4, hr⟩ := bnd_some hr
  refine awc_len (t := 0) rfl (fun hl => ?_)
  refine awc_range (S := Unit) (R := Unit) (List.length p0 : Int) (fp11_b0 p0) (fun p => match p with | (i1, ()) => (⟨[(0, .sl Y1 p0), (2, .bool false), (5, .sl Y1 p0), (6, .int .i64 (List.length p0 : Int)), (7, .int .i64 i1)], [], 0⟩ : AS)) (fun o e st => match o with | .inl () => e = .exit 0 ∧ Wk X st ⟨[(2, .bool false)], [], 0⟩ | .inr () => e = .ret ∧ Wk X st ⟨[(2, .bool false)], [], 0⟩) (len_ok hl) e4 (wk_of hX [] 4 rfl rfl ⟨⟨_, rfl, cv0⟩, ⟨_, rfl, cv0⟩, ⟨_, rfl, cv0⟩, ⟨_, rfl, cv0⟩, ⟨_, rfl, cv0⟩, trivial⟩ trivial) ?_ ?_
  · intro e st hx
    rcases o3 with _ | _
    · obtain ⟨rfl, hw⟩ := hx
      refine ablock_here (athen_norm ((awc_wk hw) (awc_seq ?_)))
      refine awc_region ?_
      refine awl_v (av_assign rfl) ?_
      have hr := Option.some.inj hr
      subst hr
      exact awl_nil (athen_norm (awc_ret (ret_q (l' := [(2, .bool true)]) (wk_of hX [] 4 rfl rfl ⟨⟨_, rfl, cv0⟩, trivial⟩ trivial) rfl ⟨rfl, trivial⟩)))
    · obtain ⟨rfl, hw⟩ := hx
      have hr := Option.some.inj hr
      subst hr
      exact ablock_ret (athen_ret (ret_q (l' := [(2, .bool false)]) (Wk.trans hw (wk_of hX [] 4 rfl rfl ⟨⟨_, rfl, cv0⟩, trivial⟩ trivial)) rfl ⟨rfl, trivial⟩))
  · rintro i1 _ o ho
    refine awc_seq ?_
    refine awc_region ?_
    refine awl_v (av_lss rfl rfl) ?_
    refine awl_nil (athen_norm (awc_seq ?_))
    refine awc_cond (b := decide (i1 < (List.length p0 : Int))) rfl (fun hc5 => ?_) (fun hc5 => ?_)
    · obtain ⟨q, hr, rfl⟩ := rb_t hc5 ho
      refine awc_skip (athen_norm (awc_seq (awc_block (awc_seq ?_))))
      refine awc_region ?_
      refine awl_v (av_move rfl) ?_
      obtain ⟨x6, e7, hr⟩ := bnd_some hr
      refine awl_v (av_ia_sl (t := Y1) (e := x6) und22 sz37 rfl rfl e7) ?_
      refine awl_v (av_load_rpN ts37 rfl rfl rfl) ?_
      refine awl_op (aop_alloc zero37 rfl ?_)
      refine awl_v (av_assign rfl) ?_
      refine awl_op (aop_store sz37 rfl rfl rfl rfl rfl rfl rfl ?_)
      refine awl_nil (athen_norm (awc_seq ?_))
      obtain ⟨x8, e9, hr⟩ := bnd_some hr
      obtain ⟨h10, hr⟩ := chk_some hr
      refine awc_draw mixed [0, 2, 5, 6, 7, 4, 3] [(true, .agg [.int .i64 x6.1, .int .i64 x6.2]), (true, .bool x8), (true, .bool (!x8)), (true, .bool (!x8)), (!(!x8), .int .i64 i1), (!(!x8), .bool (decide (0 < i1))), (!(!x8), .bool (decide (0 < i1))), ((!(!x8)) && (decide (0 < i1)), .sl Y1 p0), ((!(!x8)) && (decide (0 < i1)), .int .i64 i1), ((!(!x8)) && (decide (0 < i1)), .int .i64 (w64 (i1 - 1))), ((!(!x8)) && (decide (0 < i1)), .rp [.int .i64 ((((ix p0 (w64 (i1 - 1))).getD default)).1), .int .i64 ((((ix p0 (w64 (i1 - 1))).getD default)).2)]), ((!(!x8)) && (decide (0 < i1)), .rp [.int .i64 ((((ix p0 (w64 (i1 - 1))).getD default)).1), .int .i64 ((((ix p0 (w64 (i1 - 1))).getD default)).2)]), ((!(!x8)) && (decide (0 < i1)), .int .i64 ((((ix p0 (w64 (i1 - 1))).getD default)).1)), ((!(!x8)) && (decide (0 < i1)), .ptr 0 0), ((!(!x8)) && (decide (0 < i1)), .int .i64 x6.1), ((!(!x8)) && (decide (0 < i1)), .bool (decide (x6.1 ≤ ((((ix p0 (w64 (i1 - 1))).getD default)).1)))), (!(!x8), .bool ((decide (0 < i1)) && (decide (x6.1 ≤ ((((ix p0 (w64 (i1 - 1))).getD default)).1))))), (true, .bool ((!x8) || ((decide (0 < i1)) && (decide (x6.1 ≤ ((((ix p0 (w64 (i1 - 1))).getD default)).1))))))] [[], [0], [1], [2], [3], [4, 3], [5, 3], [6], [6], [8, 6], [7, 9, 6], [10, 6], [11, 6], [6], [13, 6], [12, 14, 6], [15, 6, 3], [16, 3]] [17] rfl rfl rfl rfl rfl ⟨?_, ?_, ?_, ?_, ?_, ?_, ?_, ?_, ?_, ?_, ?_, ?_, ?_, ?_, ?_, ?_, ?_, ?_, trivial⟩ (allT_of ⟨rfl, trivial⟩) ?_
      · exact ob_v rfl (fun hg => allT_of trivial) (fun hg => av_load_ptrN ts37 rfl rfl rfl rfl)
      · exact ob_v rfl (fun hg => allT_of ⟨rfl, trivial⟩) (fun hg => av_call (fp26_runs e9).x ent26 rfl rfl)
      · exact ob_v rfl (fun hg => allT_of ⟨rfl, trivial⟩) (fun hg => av_not rfl)
      · exact ob_v rfl (fun hg => allT_of ⟨rfl, trivial⟩) (fun hg => av_move rfl)
      · exact ob_v ⟨rfl, rfl, rfl, _, rfl, rfl⟩ (fun hg => allT_of ⟨rfl, trivial⟩) (fun hg => av_move rfl)
      · exact ob_v ⟨rfl, rfl, rfl, _, rfl, rfl⟩ (fun hg => allT_of ⟨hg, rfl, trivial⟩) (fun hg => av_gtr rfl rfl)
      · exact ob_v ⟨rfl, rfl, rfl, _, rfl, rfl⟩ (fun hg => allT_of ⟨hg, rfl, trivial⟩) (fun hg => av_move rfl)
      · exact ob_v ⟨rfl, rfl, rfl, _, rfl, rfl⟩ (fun hg => allT_of ⟨(and_l hg), trivial⟩) (fun hg => av_move rfl)
      · exact ob_v ⟨rfl, rfl, rfl, _, rfl, rfl⟩ (fun hg => allT_of ⟨(and_l hg), trivial⟩) (fun hg => av_move rfl)
      · exact ob_v ⟨rfl, rfl, rfl, _, rfl, rfl⟩ (fun hg => allT_of ⟨hg, (and_l hg), trivial⟩) (fun hg => av_sub rfl rfl)
      · exact ob_v ⟨rfl, rfl, rfl, _, rfl, rfl⟩ (fun hg => allT_of ⟨hg, hg, (and_l hg), trivial⟩) (fun hg => av_ia_sl (t := Y1) (e := ((ix p0 (w64 (i1 - 1))).getD default)) und22 sz37 rfl rfl (get_g h10 hg))
      · exact ob_v ⟨rfl, rfl, rfl, _, rfl, rfl⟩ (fun hg => allT_of ⟨hg, (and_l hg), trivial⟩) (fun hg => av_fa_rp fa37_0 rfl rfl)
      · exact ob_v ⟨rfl, rfl, rfl, _, rfl, rfl⟩ (fun hg => allT_of ⟨hg, (and_l hg), trivial⟩) (fun hg => av_load_rp ts3 rfl)
      · exact ob_v ⟨rfl, rfl, rfl, _, rfl, rfl⟩ (fun hg => allT_of ⟨(and_l hg), trivial⟩) (fun hg => av_fa_ptr fa37_0 rfl rfl)
      · exact ob_v ⟨rfl, rfl, rfl, _, rfl, rfl⟩ (fun hg => allT_of ⟨hg, (and_l hg), trivial⟩) (fun hg => av_load_ptr ts3 rfl rfl rfl)
      · exact ob_v ⟨rfl, rfl, rfl, _, rfl, rfl⟩ (fun hg => allT_of ⟨hg, hg, (and_l hg), trivial⟩) (fun hg => av_geq rfl rfl)
      · exact ob_pick (b := true) (p := decide (0 < i1)) (q := decide (x6.1 ≤ ((((ix p0 (w64 (i1 - 1))).getD default)).1))) ⟨rfl, rfl, rfl, _, rfl, rfl⟩ rfl rfl (fun hg => allT_of ⟨hg, rfl, trivial⟩) rfl rfl rfl rfl rfl
      · exact ob_pick (b := false) (p := !x8) (q := (decide (0 < i1)) && (decide (x6.1 ≤ ((((ix p0 (w64 (i1 - 1))).getD default)).1)))) rfl rfl rfl (fun hg => allT_of ⟨rfl, trivial⟩) rfl rfl rfl rfl rfl
      refine athen_norm ?_
      refine awc_cond (b := (!x8) || ((decide (0 < i1)) && (decide (x6.1 ≤ ((((ix p0 (w64 (i1 - 1))).getD default)).1))))) rfl (fun hc11 => ?_) (fun hc11 => ?_)
      · have hr := if_t hc11 hr
        refine awc_seq ?_
        refine awc_region ?_
        refine awl_v (av_assign rfl) ?_
        have hr := Option.some.inj hr
        subst hr
        exact awl_nil (athen_norm (awc_ret (ablock_ret (athen_ret (⟨rfl, (wk_of hX [] 4 rfl rfl ⟨⟨_, rfl, cv0⟩, trivial⟩ trivial)⟩)))))
      · have hr := if_f hc11 hr
        refine awc_skip (ablock_norm (athen_norm ?_))
        refine awc_region ?_
        refine awl_v (av_add rfl rfl) ?_
        refine awl_v (av_move rfl) ?_
        have hr := Option.some.inj hr
        subst hr
        exact awl_nil ((wk_of hX [] 4 rfl rfl ⟨⟨_, rfl, cv0⟩, ⟨_, rfl, cv0⟩, ⟨_, rfl, cv0⟩, ⟨_, rfl, cv0⟩, ⟨_, rfl, cv0⟩, trivial⟩ trivial))
    · obtain rfl := rb_f hc5 ho
      exact awc_exit (athen_exit (⟨rfl, (wk_of hX [] 4 rfl rfl ⟨⟨_, rfl, cv0⟩, trivial⟩ trivial)⟩))
theorem fp9_runs {z : PZ} {p0 : List (Int × Int)} {r : Str} (hr : fp9 p0 = some r) : RunsT (TabM (tabsZ z)) Tryz.prog 9 [.sl Y1 p0] [] (fun q H' => q = [.str r] ∧ H' = []) := by
  refine runs_wT Tryz.func9 Tryz.ntmps9 rfl (rs := [.tmp 2]) rfl rfl fun w0 X hT hX => ?_
  refine awc_seq ?_
  refine awc_region ?_
  refine awl_v (av_assign rfl) ?_
  refine awl_nil (athen_norm (awc_seq (awc_seq ?_)))
  refine awc_region ?_
  refine awl_v (av_move rfl) ?_
  obtain ⟨x1, e2, hr⟩ := bnd_some hr
  refine awl_v (av_call (fp11_runs e2).x ent11 rfl rfl) ?_
  refine awl_v (av_not rfl) ?_
  refine awl_nil (athen_norm ?_)
  refine awc_cond (b := !x1) rfl (fun hc3 => ?_) (fun hc3 => ?_)
  · have hr := if_t hc3 hr
    refine awc_seq ?_
    refine awc_region ?_
    refine awl_v (av_assign rfl) ?_
    have hr := Option.some.inj hr
    subst hr
    exact awl_nil (athen_norm (awc_ret (athen_ret (ret_q (l' := [(2, .str ([] : Str))]) (wk_of hX [] 4 rfl rfl ⟨⟨_, rfl, cv0⟩, trivial⟩ trivial) rfl ⟨rfl, trivial⟩))))
  · have hr := if_f hc3 hr
    refine awc_skip (athen_norm (awc_seq ?_))
    refine awc_region ?_
    refine awl_v (av_assign rfl) ?_
    refine awl_nil (athen_norm (awc_seq (awc_seq ?_)))
    refine awc_region ?_
    refine awl_v (av_move rfl) ?_
    refine awl_v (av_len_sl (t := Y1) rfl rfl und22 rfl) ?_
    refine awl_v (av_move rfl) ?_
    refine awl_nil (athen_norm (awc_block ?_))
    obtain ⟨o9, e10, hr⟩ := bnd_some hr
    refine awc_len (t := 0) rfl (fun hl => ?_)
    refine awc_range (S := List Str) (R := Unit) (List.length p0 : Int) (fp9_b0 p0) (fun p => match p with | (i4, s6) => (⟨[(2, .str ([] : Str)), (3, .osl 0), (11, .sl Y1 p0), (12, .int .i64 (List.length p0 : Int)), (13, .int .i64 i4)], [(0, .sl 9 .str s6)], 1⟩ : AS)) (fun o e st => match o with | .inr _ => False | .inl s6 => e = .exit 0 ∧ Wk X st ⟨[(2, .str ([] : Str)), (3, .osl 0)], [(0, .sl 9 .str s6)], 1⟩) (len_ok hl) e10 (Wk.trans (wk_own (t := 3) 9 .str rfl) (wk_of hX [0] 4 rfl rfl ⟨⟨_, rfl, cv0⟩, ⟨_, rfl, cv0⟩, ⟨_, rfl, cv0⟩, ⟨_, rfl, cv0⟩, ⟨_, rfl, cv0⟩, trivial⟩ ⟨cvo0, trivial⟩)) ?_ ?_
    · intro e st hx
      rcases o9 with s6 | _
      · obtain ⟨rfl, hw⟩ := hx
        refine ablock_here (athen_norm ((awc_wk hw) (awc_seq ?_)))
        refine awc_region ?_
        refine awl_v (av_move rfl) ?_
        obtain ⟨x11, e12, hr⟩ := bnd_some hr
        refine awl_v (av_callB (as' := [.osl 0, .str ([44, 32] : Str)]) ((fJoin_runs e12).t hT) ent17 rfl ⟨cv0, cv0, trivial⟩ rfl rfl) ?_
        refine awl_v (av_assign rfl) ?_
        have hr := Option.some.inj hr
        subst hr
        exact awl_nil (athen_norm (awc_ret (ret_q (l' := [(2, .str x11)]) (wk_of hX [] 4 rfl rfl ⟨⟨_, rfl, cv0⟩, trivial⟩ trivial) rfl ⟨rfl, trivial⟩)))
      · exact hx.elim
    · rintro i4 s6 o ho
      refine awc_seq ?_
      refine awc_region ?_
      refine awl_v (av_lss rfl rfl) ?_
      refine awl_nil (athen_norm (awc_seq ?_))
      refine awc_cond (b := decide (i4 < (List.length p0 : Int))) rfl (fun hc13 => ?_) (fun hc13 => ?_)
      · obtain ⟨q, hr, rfl⟩ := rb_t hc13 ho
        refine awc_skip (athen_norm (awc_seq (awc_block (awc_seq ?_))))
        refine awc_region ?_
        obtain ⟨x14, e15, hr⟩ := bnd_some hr
        refine awl_v (av_ia_sl (t := Y1) (e := x14) und22 sz37 rfl rfl e15) ?_
        refine awl_v (av_load_rpN ts37 rfl rfl rfl) ?_
        refine awl_op (aop_alloc zero37 rfl ?_)
        refine awl_op (aop_store sz37 rfl rfl rfl rfl rfl rfl rfl ?_)
        refine awl_nil (athen_norm (awc_seq ?_))
        refine awc_region ?_
        refine awl_v (av_fa_ptr fa37_0 rfl rfl) ?_
        refine awl_v (av_load_ptr ts3 rfl rfl rfl) ?_
        obtain ⟨x16, e17, hr⟩ := bnd_some hr
        refine awl_v (av_call (fp25_runs e17).x ent25 rfl rfl) ?_
        refine awl_v (av_assign rfl) ?_
        refine awl_nil (athen_norm (awc_seq ?_))
        refine awc_region ?_
        refine awl_v (av_fa_ptr fa37_1 rfl rfl) ?_
        refine awl_v (av_load_ptr ts3 rfl rfl rfl) ?_
        obtain ⟨x18, e19, hr⟩ := bnd_some hr
        refine awl_v (av_call ((fItoa_runs e19).t hT) ent16 rfl rfl) ?_
        refine awl_v (av_assign rfl) ?_
        refine awl_nil (athen_norm ?_)
        obtain ⟨o21, e22, hr⟩ := bnd_some hr
        refine awc_join (S := Str) (R := Unit) (fun s => match s with | s20 => (⟨[(2, .str ([] : Str)), (3, .osl 0), (6, .sl .str x16), (7, .str s20), (11, .sl Y1 p0), (12, .int .i64 (List.length p0 : Int)), (13, .int .i64 i4)], [(0, .sl 9 .str s6)], 1⟩ : AS)) (fun _ _ _ => False) e22 (fun hr => ?_) ?_ ?_
        · refine awc_seq ?_
          refine awc_region ?_
          refine awl_v (av_move rfl) ?_
          refine awl_v (av_len_sl (t := .str) rfl rfl und41 rfl) ?_
          refine awl_v (av_gtr rfl rfl) ?_
          refine awl_nil (athen_norm ?_)
          refine awc_cond (b := decide (1 < (List.length x16 : Int))) rfl (fun hc23 => ?_) (fun hc23 => ?_)
          · have hr := if_t hc23 hr
            refine awc_region ?_
            refine awl_v (av_move rfl) ?_
            refine awl_v (av_fa_ptr fa37_1 rfl rfl) ?_
            refine awl_v (av_load_ptr ts3 rfl rfl rfl) ?_
            obtain ⟨x24, e25, hr⟩ := bnd_some hr
            refine awl_v (av_ia_sl (t := .str) (e := x24) und41 sz9 rfl rfl e25) ?_
            refine awl_v (av_load_rp ts9 rfl) ?_
            refine awl_v (av_assign rfl) ?_
            have hr := Option.some.inj hr
            subst hr
            exact awl_nil ((wk_of hX [0] 4 rfl rfl ⟨⟨_, rfl, cv0⟩, ⟨_, rfl, cv0⟩, ⟨_, rfl, cv0⟩, ⟨_, rfl, cv0⟩, ⟨_, rfl, cv0⟩, ⟨_, rfl, cv0⟩, ⟨_, rfl, cv0⟩, trivial⟩ ⟨cvo0, trivial⟩))
          · have hr := if_f hc23 hr
            have hr := Option.some.inj hr
            subst hr
            exact awc_skip ((wk_of hX [0] 4 rfl rfl ⟨⟨_, rfl, cv0⟩, ⟨_, rfl, cv0⟩, ⟨_, rfl, cv0⟩, ⟨_, rfl, cv0⟩, ⟨_, rfl, cv0⟩, ⟨_, rfl, cv0⟩, ⟨_, rfl, cv0⟩, trivial⟩ ⟨cvo0, trivial⟩))
        · rintro s20 rfl
          refine awc_region ?_
          refine awl_v (av_move rfl) ?_
          refine awl_v (av_move rfl) ?_
          obtain ⟨x26, e27, hr⟩ := bnd_some hr
          refine awl_v (av_ia_sl (t := .str) (e := x26) und41 sz9 rfl rfl e27) ?_
          refine awl_v (av_load_rp ts9 rfl) ?_
          obtain ⟨h28, hr⟩ := chk_some hr
          refine awl_v (av_adds rfl rfl h28) ?_
          refine awl_v (av_move rfl) ?_
          obtain ⟨h29, hr⟩ := chk_some hr
          refine awl_v (av_adds rfl rfl h29) ?_
          refine awl_v (av_buildSlice (t := .str) (qs := [(0, [.str ((x26 ++ ([32] : Str)) ++ s20)])]) (ys := [((x26 ++ ([32] : Str)) ++ s20)]) bs41 rfl rfl rfl rfl rfl rfl rfl rfl) ?_
          obtain ⟨h30, hr⟩ := chk_some hr
          refine awl_op (aop_append rfl rfl app41 rfl rfl rfl h30 rfl ?_)
          refine awl_v (av_assign rfl) ?_
          refine awl_nil (ablock_norm (athen_norm ?_))
          refine awc_region ?_
          refine awl_v (av_add rfl rfl) ?_
          refine awl_v (av_move rfl) ?_
          have hr := Option.some.inj hr
          subst hr
          exact awl_nil ((wk_of hX [1] 4 rfl rfl ⟨⟨_, rfl, cv0⟩, ⟨_, rfl, cv0⟩, ⟨_, rfl, cv0⟩, ⟨_, rfl, cv0⟩, ⟨_, rfl, cv0⟩, trivial⟩ ⟨cvo0, trivial⟩))
        · exact fun r h e st hne hx => hx.elim
      · obtain rfl := rb_f hc13 ho
        exact awc_exit (athen_exit (⟨rfl, (wk_of hX [0] 4 rfl rfl ⟨⟨_, rfl, cv0⟩, ⟨_, rfl, cv0⟩, trivial⟩ ⟨cvo0, trivial⟩)⟩))
theorem fp8_runs {z : PZ} {p0 : Str} {r : (List (Int × Int)) × Int} (hr : fp8 p0 = some r) : RunsT (TabM (tabsZ z)) Tryz.prog 8 [.str p0] [] (fun q H' => q = [.sl Y1 r.1, .int .i64 r.2] ∧ H' = []) := by
  refine runs_wT Tryz.func8 Tryz.ntmps8 rfl (rs := [.tmp 2, .tmp 3]) rfl rfl fun w0 X hT hX => ?_
  refine awc_seq ?_
  refine awc_region ?_
  refine awl_v (av_assign rfl) ?_
  refine awl_v (av_assign rfl) ?_
  refine awl_nil (athen_norm (awc_seq (awc_seq ?_)))
  refine awc_region ?_
  refine awl_v (av_move rfl) ?_
  refine awl_v (av_len_str rfl rfl und9 rfl) ?_
  refine awl_v (av_gtr rfl rfl) ?_
  refine awl_nil (athen_norm ?_)
  refine awc_cond (b := decide (65536 < (List.length p0 : Int))) rfl (fun hc1 => ?_) (fun hc1 => ?_)
  · have hr := if_t hc1 hr
    refine awc_seq ?_
    refine awc_region ?_
    refine awl_v (av_assign rfl) ?_
    refine awl_v (av_assign rfl) ?_
    have hr := Option.some.inj hr
    subst hr
    exact awl_nil (athen_norm (awc_ret (athen_ret (ret_q (l' := [(2, .sl Y1 ([] : List (Int × Int))), (3, .int .i64 3)]) (wk_of hX [] 4 rfl rfl ⟨⟨_, rfl, cv2⟩, ⟨_, rfl, cv0⟩, trivial⟩ trivial) rfl ⟨rfl, rfl, trivial⟩))))
  · have hr := if_f hc1 hr
    refine awc_skip (athen_norm (awc_seq (awc_seq ?_)))
    refine awc_region ?_
    refine awl_v (av_move rfl) ?_
    refine awl_v (av_eqls rfl rfl) ?_
    refine awl_nil (athen_norm ?_)
    refine awc_cond (b := decide (p0 = ([] : Str))) rfl (fun hc2 => ?_) (fun hc2 => ?_)
    · have hr := if_t hc2 hr
      refine awc_seq ?_
      refine awc_region ?_
      refine awl_v (av_assign rfl) ?_
      refine awl_v (av_assign rfl) ?_
      have hr := Option.some.inj hr
      subst hr
      exact awl_nil (athen_norm (awc_ret (athen_ret (ret_q (l' := [(2, .sl Y1 ([] : List (Int × Int))), (3, .int .i64 0)]) (wk_of hX [] 4 rfl rfl ⟨⟨_, rfl, cv2⟩, ⟨_, rfl, cv0⟩, trivial⟩ trivial) rfl ⟨rfl, rfl, trivial⟩))))
    · have hr := if_f hc2 hr
      refine awc_skip (athen_norm (awc_seq ?_))
      refine awc_region ?_
      refine awl_v (av_assign rfl) ?_
      refine awl_nil (athen_norm (awc_seq (awc_seq ?_)))
      refine awc_region ?_
      refine awl_v (av_move rfl) ?_
      obtain ⟨x3, e4, hr⟩ := bnd_some hr
      refine awl_v (av_call ((fSplit_runs e4).t hT) ent24 rfl rfl) ?_
      refine awl_v (av_len_sl (t := .str) rfl rfl und41 rfl) ?_
      refine awl_v (av_move rfl) ?_
      refine awl_nil (athen_norm (awc_block ?_))
      obtain ⟨o10, e11, hr⟩ := bnd_some hr
      refine awc_len (t := 21) rfl (fun hl => ?_)
      refine awc_range (S := (List (Int × Int))) (R := Unit) (List.length x3 : Int) (fp8_b0 x3) (fun p => match p with | (i5, s7) => (⟨[(0, .str p0), (2, .nils), (3, .int .i64 0), (4, .osl 0), (21, .sl .str x3), (22, .int .i64 (List.length x3 : Int)), (23, .int .i64 i5)], [(0, .sl 37 Y1 s7)], 1⟩ : AS)) (fun o e st => match o with | .inr _ => False | .inl s7 => e = .exit 0 ∧ Wk X st ⟨[(0, .str p0), (2, .nils), (3, .int .i64 0), (4, .osl 0)], [(0, .sl 37 Y1 s7)], 1⟩) (len_ok hl) e11 (Wk.trans (wk_own (t := 4) 37 Y1 rfl) (wk_of hX [0] 4 rfl rfl ⟨⟨_, rfl, cv0⟩, ⟨_, rfl, cv0⟩, ⟨_, rfl, cv0⟩, ⟨_, rfl, cv0⟩, ⟨_, rfl, cv0⟩, ⟨_, rfl, cv0⟩, ⟨_, rfl, cv0⟩, trivial⟩ ⟨cvo0, trivial⟩)) ?_ ?_
      · intro e st hx
        rcases o10 with s7 | _
        · obtain ⟨rfl, hw⟩ := hx
          refine ablock_here (athen_norm ((awc_wk hw) (awc_seq (awc_seq ?_))))
          refine awc_region ?_
          refine awl_v (av_move rfl) ?_
          obtain ⟨x12, e13, hr⟩ := bnd_some hr
          refine awl_v (av_callB (as' := [.osl 0]) ((fp9_runs e13).t hT) ent9 rfl ⟨cv0, trivial⟩ rfl rfl) ?_
          refine awl_v (av_move rfl) ?_
          refine awl_v (av_neqs rfl rfl) ?_
          refine awl_nil (athen_norm ?_)
          refine awc_cond (b := !decide (x12 = p0)) rfl (fun hc14 => ?_) (fun hc14 => ?_)
          · have hr := if_t hc14 hr
            refine awc_seq ?_
            refine awc_region ?_
            refine awl_v (av_assign rfl) ?_
            refine awl_v (av_assign rfl) ?_
            have hr := Option.some.inj hr
            subst hr
            exact awl_nil (athen_norm (awc_ret (athen_ret (ret_q (l' := [(2, .sl Y1 ([] : List (Int × Int))), (3, .int .i64 2)]) (wk_of hX [] 4 rfl rfl ⟨⟨_, rfl, cv2⟩, ⟨_, rfl, cv0⟩, trivial⟩ trivial) rfl ⟨rfl, rfl, trivial⟩))))
          · have hr := if_f hc14 hr
            refine awc_skip (athen_norm (awc_seq ?_))
            refine awc_region ?_
            refine awl_v (av_move rfl) ?_
            refine awl_v (av_assign rfl) ?_
            refine awl_v (av_assign rfl) ?_
            have hr := Option.some.inj hr
            subst hr
            exact awl_nil (athen_norm (awc_ret (ret_q (l' := [(2, .sl Y1 s7), (3, .int .i64 0)]) (wk_of hX [] 4 rfl rfl ⟨⟨_, rfl, cv0⟩, ⟨_, rfl, cv0⟩, trivial⟩ trivial) rfl ⟨rfl, rfl, trivial⟩)))
        · exact hx.elim
      · rintro i5 s7 o ho
        refine awc_seq ?_
        refine awc_region ?_
        refine awl_v (av_lss rfl rfl) ?_
        refine awl_nil (athen_norm (awc_seq ?_))
        refine awc_cond (b := decide (i5 < (List.length x3 : Int))) rfl (fun hc15 => ?_) (fun hc15 => ?_)
        · obtain ⟨q, hr, rfl⟩ := rb_t hc15 ho
          refine awc_skip (athen_norm (awc_seq (awc_block (awc_seq ?_))))
          refine awc_region ?_
          obtain ⟨x16, e17, hr⟩ := bnd_some hr
          refine awl_v (av_ia_sl (t := .str) (e := x16) und41 sz9 rfl rfl e17) ?_
          refine awl_v (av_load_rp ts9 rfl) ?_
          refine awl_v (av_assign rfl) ?_
          refine awl_nil (athen_norm (awc_seq ?_))
          refine awc_region ?_
          refine awl_v (av_move rfl) ?_
          obtain ⟨x18, e19, hr⟩ := bnd_some hr
          refine awl_v (av_call ((fCut_runs e19).t hT) ent19 rfl rfl) ?_
          refine awl_v (av_move rfl) ?_
          refine awl_v (av_extract rfl rfl) ?_
          refine awl_v (av_extract rfl rfl) ?_
          refine awl_v (av_extract rfl rfl) ?_
          refine awl_v (av_assign rfl) ?_
          refine awl_v (av_assign rfl) ?_
          refine awl_v (av_assign rfl) ?_
          refine awl_nil (athen_norm (awc_seq ?_))
          refine awc_region ?_
          refine awl_v (av_assign rfl) ?_
          refine awl_nil (athen_norm (awc_block ?_))
          obtain ⟨s25, e27, hr⟩ := bnd_some hr
          refine awc_loop (S := Int × (List (Int × Int))) (R := (List (Int × Int))) (fun p => match p with | (s20, s21) => (⟨[(0, .str p0), (2, .nils), (3, .int .i64 0), (4, .osl 0), (7, .str x18.1), (8, .str x18.2.1), (10, .int .i64 s20), (21, .sl .str x3), (22, .int .i64 (List.length x3 : Int)), (23, .int .i64 i5)], [(0, .sl 37 Y1 s21)], 1⟩ : AS)) (fp8_b1 x18) (fun r e st => match r with | s25 => e = .exit 2 ∧ Wk X st ⟨[(0, .str p0), (2, .nils), (3, .int .i64 0), (4, .osl 0), (21, .sl .str x3), (22, .int .i64 (List.length x3 : Int)), (23, .int .i64 i5)], [(0, .sl 37 Y1 s25)], 1⟩) e27 (wk_of hX [0] 4 rfl rfl ⟨⟨_, rfl, cv0⟩, ⟨_, rfl, cv0⟩, ⟨_, rfl, cv0⟩, ⟨_, rfl, cv0⟩, ⟨_, rfl, cv0⟩, ⟨_, rfl, cv0⟩, ⟨_, rfl, cv0⟩, ⟨_, rfl, cv0⟩, ⟨_, rfl, cv0⟩, ⟨_, rfl, cv0⟩, trivial⟩ ⟨cvo0, trivial⟩) ?_ ?_
          · intro e st hx
            obtain ⟨rfl, hw⟩ := hx
            refine ablock_here (ablock_norm (athen_norm ((awc_wk hw) ?_)))
            refine awc_region ?_
            refine awl_v (av_add rfl rfl) ?_
            refine awl_v (av_move rfl) ?_
            have hr := Option.some.inj hr
            subst hr
            exact awl_nil ((wk_of hX [0] 4 rfl rfl ⟨⟨_, rfl, cv0⟩, ⟨_, rfl, cv0⟩, ⟨_, rfl, cv0⟩, ⟨_, rfl, cv0⟩, ⟨_, rfl, cv0⟩, ⟨_, rfl, cv0⟩, ⟨_, rfl, cv0⟩, trivial⟩ ⟨cvo0, trivial⟩))
          · rintro ⟨s20, s21⟩ o hr
            refine awc_seq (awc_seq ?_)
            refine awc_region ?_
            refine awl_v (av_move rfl) ?_
            refine awl_v (av_leq rfl rfl) ?_
            refine awl_nil (athen_norm ?_)
            refine awc_cond (b := decide (s20 ≤ 13)) rfl (fun hc28 => ?_) (fun hc28 => ?_)
            · have hr := if_t hc28 hr
              refine awc_skip (athen_norm ?_)
              obtain ⟨o30, e31, hr⟩ := bnd_some hr
              refine awc_join (S := (List (Int × Int))) (R := Unit) (fun s => match s with | s29 => (⟨[(0, .str p0), (2, .nils), (3, .int .i64 0), (4, .osl 0), (7, .str x18.1), (8, .str x18.2.1), (10, .int .i64 s20), (21, .sl .str x3), (22, .int .i64 (List.length x3 : Int)), (23, .int .i64 i5)], [(0, .sl 37 Y1 s29)], 1⟩ : AS)) (fun _ _ _ => False) e31 (fun hr => ?_) ?_ ?_
              · refine awc_block (awc_seq ?_)
                refine awc_region ?_
                refine awl_v (av_move rfl) ?_
                obtain ⟨x32, e33, hr⟩ := bnd_some hr
                refine awl_v (av_call (fp25_runs e33).x ent25 rfl rfl) ?_
                refine awl_v (av_assign rfl) ?_
                refine awl_nil (athen_norm (awc_seq (awc_seq ?_)))
                refine awc_region ?_
                refine awl_v (av_move rfl) ?_
                obtain ⟨x34, e35, hr⟩ := bnd_some hr
                refine awl_v (av_ia_sl (t := .str) (e := x34) und41 sz9 rfl rfl e35) ?_
                refine awl_v (av_load_rp ts9 rfl) ?_
                refine awl_v (av_move rfl) ?_
                refine awl_v (av_neqs rfl rfl) ?_
                refine awl_nil (athen_norm ?_)
                refine awc_cond (b := !decide (x34 = x18.1)) rfl (fun hc36 => ?_) (fun hc36 => ?_)
                · have hr := if_t hc36 hr
                  have hr := Option.some.inj hr
                  subst hr
                  exact awc_exit (athen_exit (ablock_here ((wk_of hX [0] 4 rfl rfl ⟨⟨_, rfl, cv0⟩, ⟨_, rfl, cv0⟩, ⟨_, rfl, cv0⟩, ⟨_, rfl, cv0⟩, ⟨_, rfl, cv0⟩, ⟨_, rfl, cv0⟩, ⟨_, rfl, cv0⟩, ⟨_, rfl, cv0⟩, ⟨_, rfl, cv0⟩, ⟨_, rfl, cv0⟩, trivial⟩ ⟨cvo0, trivial⟩))))
                · have hr := if_f hc36 hr
                  refine awc_skip (athen_norm (awc_seq ?_))
                  refine awc_region ?_
                  refine awl_v (av_move rfl) ?_
                  obtain ⟨x37, e38, hr⟩ := bnd_some hr
                  refine awl_v (av_call ((fAtoi_runs e38).t hT) ent23 rfl rfl) ?_
                  refine awl_v (av_move rfl) ?_
                  refine awl_v (av_extract rfl rfl) ?_
                  refine awl_v (av_extract rfl rfl) ?_
                  refine awl_v (av_assign rfl) ?_
                  refine awl_v (av_assign rfl) ?_
                  refine awl_nil (athen_norm (awc_seq (awc_seq ?_)))
                  refine awc_region ?_
                  refine awl_v (av_assign rfl) ?_
                  refine awl_nil (athen_norm (awc_block ?_))
                  obtain ⟨s43, e46, hr⟩ := bnd_some hr
                  refine awc_loop (S := Int × Int) (R := Int) (fun p => match p with | (s39, s40) => (⟨[(0, .str p0), (2, .nils), (3, .int .i64 0), (4, .osl 0), (7, .str x18.1), (8, .str x18.2.1), (10, .int .i64 s20), (11, .sl .str x32), (12, .int .i64 s39), (14, .int .i64 s40), (21, .sl .str x3), (22, .int .i64 (List.length x3 : Int)), (23, .int .i64 i5)], [(0, .sl 37 Y1 s21)], 1⟩ : AS)) (fp8_b2 x18 x32) (fun r e st => match r with | s43 => e = .exit 4 ∧ Wk X st ⟨[(0, .str p0), (2, .nils), (3, .int .i64 0), (4, .osl 0), (7, .str x18.1), (8, .str x18.2.1), (10, .int .i64 s20), (12, .int .i64 s43), (21, .sl .str x3), (22, .int .i64 (List.length x3 : Int)), (23, .int .i64 i5)], [(0, .sl 37 Y1 s21)], 1⟩) e46 (wk_of hX [0] 4 rfl rfl ⟨⟨_, rfl, cv0⟩, ⟨_, rfl, cv0⟩, ⟨_, rfl, cv0⟩, ⟨_, rfl, cv0⟩, ⟨_, rfl, cv0⟩, ⟨_, rfl, cv0⟩, ⟨_, rfl, cv0⟩, ⟨_, rfl, cv0⟩, ⟨_, rfl, cv0⟩, ⟨_, rfl, cv0⟩, ⟨_, rfl, cv0⟩, ⟨_, rfl, cv0⟩, ⟨_, rfl, cv0⟩, trivial⟩ ⟨cvo0, trivial⟩) ?_ ?_
                  · intro e st hx
                    obtain ⟨rfl, hw⟩ := hx
                    refine ablock_here (athen_norm ((awc_wk hw) ?_))
                    refine awc_region ?_
                    refine awl_v (av_move rfl) ?_
                    refine awl_v (av_move rfl) ?_
                    refine awl_v (av_move rfl) ?_
                    refine awl_v (av_build (qs := [(0, [.int .i64 s20]), (1, [.int .i64 s43])]) (cs := [.int .i64 s20, .int .i64 s43]) bt37 rfl rfl rfl) ?_
                    refine awl_v (av_buildSlice (t := Y1) (qs := [(0, [.int .i64 s20, .int .i64 s43])]) (ys := [(s20, s43)]) bs22 rfl rfl rfl rfl rfl rfl rfl rfl) ?_
                    obtain ⟨h47, hr⟩ := chk_some hr
                    refine awl_op (aop_append rfl rfl app22 rfl rfl rfl h47 rfl ?_)
                    refine awl_v (av_assign rfl) ?_
                    have hr := Option.some.inj hr
                    subst hr
                    exact awl_nil (ablock_norm ((wk_of hX [1] 4 rfl rfl ⟨⟨_, rfl, cv0⟩, ⟨_, rfl, cv0⟩, ⟨_, rfl, cv0⟩, ⟨_, rfl, cv0⟩, ⟨_, rfl, cv0⟩, ⟨_, rfl, cv0⟩, ⟨_, rfl, cv0⟩, ⟨_, rfl, cv0⟩, ⟨_, rfl, cv0⟩, ⟨_, rfl, cv0⟩, trivial⟩ ⟨cvo0, trivial⟩)))
                  · rintro ⟨s39, s40⟩ o hr
                    refine awc_seq (awc_seq ?_)
                    refine awc_region ?_
                    refine awl_v (av_move rfl) ?_
                    refine awl_v (av_move rfl) ?_
                    refine awl_v (av_len_sl (t := .str) rfl rfl und41 rfl) ?_
                    refine awl_v (av_lss rfl rfl) ?_
                    refine awl_nil (athen_norm ?_)
                    refine awc_cond (b := decide (s40 < (List.length x32 : Int))) rfl (fun hc48 => ?_) (fun hc48 => ?_)
                    · have hr := if_t hc48 hr
                      refine awc_skip (athen_norm ?_)
                      obtain ⟨o50, e51, hr⟩ := bnd_some hr
                      refine awc_join (S := Int) (R := Unit) (fun s => match s with | s49 => (⟨[(0, .str p0), (2, .nils), (3, .int .i64 0), (4, .osl 0), (7, .str x18.1), (8, .str x18.2.1), (10, .int .i64 s20), (11, .sl .str x32), (12, .int .i64 s49), (14, .int .i64 s40), (21, .sl .str x3), (22, .int .i64 (List.length x3 : Int)), (23, .int .i64 i5)], [(0, .sl 37 Y1 s21)], 1⟩ : AS)) (fun _ _ _ => False) e51 (fun hr => ?_) ?_ ?_
                      · refine awc_block (awc_seq ?_)
                        refine awc_region ?_
                        refine awl_v (av_move rfl) ?_
                        refine awl_v (av_move rfl) ?_
                        obtain ⟨x52, e53, hr⟩ := bnd_some hr
                        refine awl_v (av_ia_sl (t := .str) (e := x52) und41 sz9 rfl rfl e53) ?_
                        refine awl_v (av_load_rp ts9 rfl) ?_
                        refine awl_v (av_move rfl) ?_
                        refine awl_v (av_eqls rfl rfl) ?_
                        refine awl_nil (athen_norm ?_)
                        refine awc_cond (b := decide (x52 = x18.2.1)) rfl (fun hc54 => ?_) (fun hc54 => ?_)
                        · have hr := if_t hc54 hr
                          refine awc_region ?_
                          refine awl_v (av_move rfl) ?_
                          refine awl_v (av_assign rfl) ?_
                          have hr := Option.some.inj hr
                          subst hr
                          exact awl_nil (ablock_norm ((wk_of hX [0] 4 rfl rfl ⟨⟨_, rfl, cv0⟩, ⟨_, rfl, cv0⟩, ⟨_, rfl, cv0⟩, ⟨_, rfl, cv0⟩, ⟨_, rfl, cv0⟩, ⟨_, rfl, cv0⟩, ⟨_, rfl, cv0⟩, ⟨_, rfl, cv0⟩, ⟨_, rfl, cv0⟩, ⟨_, rfl, cv0⟩, ⟨_, rfl, cv0⟩, ⟨_, rfl, cv0⟩, ⟨_, rfl, cv0⟩, trivial⟩ ⟨cvo0, trivial⟩)))
                        · have hr := if_f hc54 hr
                          have hr := Option.some.inj hr
                          subst hr
                          exact awc_skip (ablock_norm ((wk_of hX [0] 4 rfl rfl ⟨⟨_, rfl, cv0⟩, ⟨_, rfl, cv0⟩, ⟨_, rfl, cv0⟩, ⟨_, rfl, cv0⟩, ⟨_, rfl, cv0⟩, ⟨_, rfl, cv0⟩, ⟨_, rfl, cv0⟩, ⟨_, rfl, cv0⟩, ⟨_, rfl, cv0⟩, ⟨_, rfl, cv0⟩, ⟨_, rfl, cv0⟩, ⟨_, rfl, cv0⟩, ⟨_, rfl, cv0⟩, trivial⟩ ⟨cvo0, trivial⟩)))
                      · rintro s49 rfl
                        refine awc_region ?_
                        refine awl_v (av_move rfl) ?_
                        refine awl_v (av_add rfl rfl) ?_
                        refine awl_v (av_assign rfl) ?_
                        have hr := Option.some.inj hr
                        subst hr
                        exact awl_nil ((wk_of hX [0] 4 rfl rfl ⟨⟨_, rfl, cv0⟩, ⟨_, rfl, cv0⟩, ⟨_, rfl, cv0⟩, ⟨_, rfl, cv0⟩, ⟨_, rfl, cv0⟩, ⟨_, rfl, cv0⟩, ⟨_, rfl, cv0⟩, ⟨_, rfl, cv0⟩, ⟨_, rfl, cv0⟩, ⟨_, rfl, cv0⟩, ⟨_, rfl, cv0⟩, ⟨_, rfl, cv0⟩, ⟨_, rfl, cv0⟩, trivial⟩ ⟨cvo0, trivial⟩))
                      · exact fun r h e st hne hx => hx.elim
                    · have hr := if_f hc48 hr
                      have hr := Option.some.inj hr
                      subst hr
                      exact awc_exit (athen_exit (⟨rfl, (wk_of hX [0] 4 rfl rfl ⟨⟨_, rfl, cv0⟩, ⟨_, rfl, cv0⟩, ⟨_, rfl, cv0⟩, ⟨_, rfl, cv0⟩, ⟨_, rfl, cv0⟩, ⟨_, rfl, cv0⟩, ⟨_, rfl, cv0⟩, ⟨_, rfl, cv0⟩, ⟨_, rfl, cv0⟩, ⟨_, rfl, cv0⟩, ⟨_, rfl, cv0⟩, trivial⟩ ⟨cvo0, trivial⟩)⟩))
              · rintro s29 rfl
                refine awc_region ?_
                refine awl_v (av_move rfl) ?_
                refine awl_v (av_add rfl rfl) ?_
                refine awl_v (av_assign rfl) ?_
                have hr := Option.some.inj hr
                subst hr
                exact awl_nil ((wk_of hX [0] 4 rfl rfl ⟨⟨_, rfl, cv0⟩, ⟨_, rfl, cv0⟩, ⟨_, rfl, cv0⟩, ⟨_, rfl, cv0⟩, ⟨_, rfl, cv0⟩, ⟨_, rfl, cv0⟩, ⟨_, rfl, cv0⟩, ⟨_, rfl, cv0⟩, ⟨_, rfl, cv0⟩, ⟨_, rfl, cv0⟩, trivial⟩ ⟨cvo0, trivial⟩))
              · exact fun r h e st hne hx => hx.elim
            · have hr := if_f hc28 hr
              have hr := Option.some.inj hr
              subst hr
              exact awc_exit (athen_exit (⟨rfl, (wk_of hX [0] 4 rfl rfl ⟨⟨_, rfl, cv0⟩, ⟨_, rfl, cv0⟩, ⟨_, rfl, cv0⟩, ⟨_, rfl, cv0⟩, ⟨_, rfl, cv0⟩, ⟨_, rfl, cv0⟩, ⟨_, rfl, cv0⟩, trivial⟩ ⟨cvo0, trivial⟩)⟩))
        · obtain rfl := rb_f hc15 ho
          exact awc_exit (athen_exit (⟨rfl, (wk_of hX [0] 4 rfl rfl ⟨⟨_, rfl, cv0⟩, ⟨_, rfl, cv0⟩, ⟨_, rfl, cv0⟩, ⟨_, rfl, cv0⟩, trivial⟩ ⟨cvo0, trivial⟩)⟩))
theorem fp10_runs {p0 : List (Int × Int)} {p1 : List (Int × Int)} {r : Bool} (hr : fp10 p0 p1 = some r) : RunsP Tryz.prog 10 [.sl Y1 p0, .sl Y1 p1] [.bool r] := by
  refine runs_w Tryz.func10 Tryz.ntmps10 rfl (rs := [.tmp 4]) rfl rfl fun w0 X hX => ?_
  refine awc_seq ?_
  refine awc_region ?_
  refine awl_v (av_assign rfl) ?_
  refine awl_nil (athen_norm (awc_seq (awc_seq ?_)))
  refine awc_region ?_
  refine awl_v (av_move rfl) ?_
  refine awl_v (av_len_sl (t := Y1) rfl rfl und22 rfl) ?_
  refine awl_v (av_move rfl) ?_
  refine awl_v (av_len_sl (t := Y1) rfl rfl und22 rfl) ?_
  refine awl_v (av_neq rfl rfl) ?_
  refine awl_nil (athen_norm ?_)
  refine awc_cond (b := !decide ((List.length p0 : Int) = (List.length p1 : Int))) rfl (fun hc1 => ?_) (fun hc1 => ?_)
  · have hr := if_t hc1 hr
    refine awc_seq ?_
    refine awc_region ?_
    refine awl_v (av_assign rfl) ?_
    have hr := Option.some.inj hr
    subst hr
    exact awl_nil (athen_norm (awc_ret (athen_ret (ret_q (l' := [(4, .bool false)]) (wk_of hX [] 4 rfl rfl ⟨⟨_, rfl, cv0⟩, trivial⟩ trivial) rfl ⟨rfl, trivial⟩))))
  · have hr := if_f hc1 hr
    refine awc_skip (athen_norm (awc_seq (awc_seq ?_)))
    refine awc_region ?_
    refine awl_v (av_move rfl) ?_
    refine awl_v (av_len_sl (t := Y1) rfl rfl und22 rfl) ?_
    refine awl_v (av_move rfl) ?_
    refine awl_nil (athen_norm (awc_block ?_))
    obtain ⟨o4, e5, hr⟩ := bnd_some hr
    refine awc_len (t := 0) rfl (fun hl => ?_)
    refine awc_range (S := Unit) (R := Unit) (List.length p0 : Int) (fp10_b0 p0 p1) (fun p => match p with | (i2, ()) => (⟨[(0, .sl Y1 p0), (1, .sl Y1 p1), (4, .bool false), (12, .int .i64 (List.length p0 : Int)), (13, .int .i64 i2)], [], 0⟩ : AS)) (fun o e st => match o with | .inl () => e = .exit 0 ∧ Wk X st ⟨[(4, .bool false)], [], 0⟩ | .inr () => e = .ret ∧ Wk X st ⟨[(4, .bool false)], [], 0⟩) (len_ok hl) e5 (wk_of hX [] 4 rfl rfl ⟨⟨_, rfl, cv0⟩, ⟨_, rfl, cv0⟩, ⟨_, rfl, cv0⟩, ⟨_, rfl, cv0⟩, ⟨_, rfl, cv0⟩, trivial⟩ trivial) ?_ ?_
    · intro e st hx
      rcases o4 with _ | _
      · obtain ⟨rfl, hw⟩ := hx
        refine ablock_here (athen_norm ((awc_wk hw) (awc_seq ?_)))
        refine awc_region ?_
        refine awl_v (av_assign rfl) ?_
        have hr := Option.some.inj hr
        subst hr
        exact awl_nil (athen_norm (awc_ret (ret_q (l' := [(4, .bool true)]) (wk_of hX [] 4 rfl rfl ⟨⟨_, rfl, cv0⟩, trivial⟩ trivial) rfl ⟨rfl, trivial⟩)))
      · obtain ⟨rfl, hw⟩ := hx
        have hr := Option.some.inj hr
        subst hr
        exact ablock_ret (athen_ret (ret_q (l' := [(4, .bool false)]) (Wk.trans hw (wk_of hX [] 4 rfl rfl ⟨⟨_, rfl, cv0⟩, trivial⟩ trivial)) rfl ⟨rfl, trivial⟩))
    · rintro i2 _ o ho
      refine awc_seq ?_
      refine awc_region ?_
      refine awl_v (av_lss rfl rfl) ?_
      refine awl_nil (athen_norm (awc_seq ?_))
      refine awc_cond (b := decide (i2 < (List.length p0 : Int))) rfl (fun hc6 => ?_) (fun hc6 => ?_)
      · obtain ⟨q, hr, rfl⟩ := rb_t hc6 ho
        refine awc_skip (athen_norm (awc_seq (awc_block (awc_seq ?_))))
        refine awc_region ?_
        refine awl_v (av_move rfl) ?_
        refine awl_v (av_assign rfl) ?_
        refine awl_nil (athen_norm (awc_seq ?_))
        obtain ⟨x7, e8, hr⟩ := bnd_some hr
        obtain ⟨x9, e10, hr⟩ := bnd_some hr
        refine awc_draw mixed [0, 1, 4, 12, 13, 5] [(true, .sl Y1 p0), (true, .int .i64 i2), (true, .rp [.int .i64 x7.1, .int .i64 x7.2]), (true, .agg [.int .i64 x7.1, .int .i64 x7.2]), (true, .sl Y1 p1), (true, .int .i64 i2), (true, .rp [.int .i64 x9.1, .int .i64 x9.2]), (true, .agg [.int .i64 x9.1, .int .i64 x9.2]), (true, .bool (!((decide (x7.1 = x9.1)) && (decide (x7.2 = x9.2)))))] [[], [], [0, 1], [2], [], [], [4, 5], [6], [3, 7]] [8] rfl rfl rfl rfl rfl ⟨?_, ?_, ?_, ?_, ?_, ?_, ?_, ?_, ?_, trivial⟩ (allT_of ⟨rfl, trivial⟩) ?_
        · exact ob_v rfl (fun hg => allT_of trivial) (fun hg => av_move rfl)
        · exact ob_v rfl (fun hg => allT_of trivial) (fun hg => av_move rfl)
        · exact ob_v rfl (fun hg => allT_of ⟨rfl, rfl, trivial⟩) (fun hg => av_ia_sl (t := Y1) (e := x7) und22 sz37 rfl rfl e8)
        · exact ob_v rfl (fun hg => allT_of ⟨rfl, trivial⟩) (fun hg => av_load_rpN ts37 rfl rfl rfl)
        · exact ob_v rfl (fun hg => allT_of trivial) (fun hg => av_move rfl)
        · exact ob_v rfl (fun hg => allT_of trivial) (fun hg => av_move rfl)
        · exact ob_v rfl (fun hg => allT_of ⟨rfl, rfl, trivial⟩) (fun hg => av_ia_sl (t := Y1) (e := x9) und22 sz37 rfl rfl e10)
        · exact ob_v rfl (fun hg => allT_of ⟨rfl, trivial⟩) (fun hg => av_load_rpN ts37 rfl rfl rfl)
        · exact ob_v rfl (fun hg => allT_of ⟨rfl, rfl, trivial⟩) (fun hg => av_neqA (r := (decide (x7.1 = x9.1)) && (decide (x7.2 = x9.2))) eq37 rfl rfl rfl rfl rfl rfl)
        refine athen_norm ?_
        refine awc_cond (b := !((decide (x7.1 = x9.1)) && (decide (x7.2 = x9.2)))) rfl (fun hc11 => ?_) (fun hc11 => ?_)
        · have hr := if_t hc11 hr
          refine awc_seq ?_
          refine awc_region ?_
          refine awl_v (av_assign rfl) ?_
          have hr := Option.some.inj hr
          subst hr
          exact awl_nil (athen_norm (awc_ret (ablock_ret (athen_ret (⟨rfl, (wk_of hX [] 4 rfl rfl ⟨⟨_, rfl, cv0⟩, trivial⟩ trivial)⟩)))))
        · have hr := if_f hc11 hr
          refine awc_skip (ablock_norm (athen_norm ?_))
          refine awc_region ?_
          refine awl_v (av_add rfl rfl) ?_
          refine awl_v (av_move rfl) ?_
          have hr := Option.some.inj hr
          subst hr
          exact awl_nil ((wk_of hX [] 4 rfl rfl ⟨⟨_, rfl, cv0⟩, ⟨_, rfl, cv0⟩, ⟨_, rfl, cv0⟩, ⟨_, rfl, cv0⟩, ⟨_, rfl, cv0⟩, trivial⟩ trivial))
      · obtain rfl := rb_f hc6 ho
        exact awc_exit (athen_exit (⟨rfl, (wk_of hX [] 4 rfl rfl ⟨⟨_, rfl, cv0⟩, trivial⟩ trivial)⟩))
theorem fp3_runs {z : PZ} {p0 : List (Int × Int)} {p1 : Str} {r : Bool} (hr : fp3 p0 p1 = some r) : RunsT (TabM (tabsZ z)) Tryz.prog 3 [.sl Y1 p0, .str p1] [] (fun q H' => q = [.bool r] ∧ H' = []) := by
  refine runs_wT Tryz.func3 Tryz.ntmps3 rfl (rs := [.tmp 4]) rfl rfl fun w0 X hT hX => ?_
  refine awc_seq ?_
  refine awc_region ?_
  refine awl_v (av_assign rfl) ?_
  refine awl_nil (athen_norm (awc_seq (awc_seq ?_)))
  obtain ⟨x1, e2, hr⟩ := bnd_some hr
  refine awc_text [0, 1, 4] [(true, .sl Y1 p0), (true, .sl (.slice Y1) [p0]), (true, .bool x1), (true, .bool (!x1)), (true, .bool (!x1)), (!(!x1), .str p1), (!(!x1), .int .i64 (List.length p1 : Int)), (!(!x1), .bool (decide (1000 < (List.length p1 : Int)))), (true, .bool ((!x1) || (decide (1000 < (List.length p1 : Int)))))] [[], [0], [1], [2], [3], [4], [5, 4], [6, 4], [7, 4]] [8] rfl rfl rfl rfl rfl ⟨?_, ?_, ?_, ?_, ?_, ?_, ?_, ?_, ?_, trivial⟩ (allT_of ⟨rfl, trivial⟩) ?_
  · exact ob_v rfl (fun hg => allT_of trivial) (fun hg => av_move rfl)
  · exact ob_v rfl (fun hg => allT_of ⟨rfl, trivial⟩) (fun hg => av_buildSlice (t := (.slice Y1)) (qs := [(0, [.sl Y1 p0])]) (ys := [p0]) bs32 rfl rfl rfl rfl rfl rfl rfl rfl)
  · exact ob_v rfl (fun hg => allT_of ⟨rfl, trivial⟩) (fun hg => av_call (fp4_runs e2).x ent4 rfl rfl)
  · exact ob_v rfl (fun hg => allT_of ⟨rfl, trivial⟩) (fun hg => av_not rfl)
  · exact ob_v rfl (fun hg => allT_of ⟨rfl, trivial⟩) (fun hg => av_move rfl)
  · exact ob_v ⟨rfl, rfl, rfl, _, rfl, rfl⟩ (fun hg => allT_of ⟨rfl, trivial⟩) (fun hg => av_move rfl)
  · exact ob_v ⟨rfl, rfl, rfl, _, rfl, rfl⟩ (fun hg => allT_of ⟨hg, rfl, trivial⟩) (fun hg => av_len_str rfl rfl und9 rfl)
  · exact ob_v ⟨rfl, rfl, rfl, _, rfl, rfl⟩ (fun hg => allT_of ⟨hg, rfl, trivial⟩) (fun hg => av_gtr rfl rfl)
  · exact ob_pick (b := false) (p := !x1) (q := decide (1000 < (List.length p1 : Int))) rfl rfl rfl (fun hg => allT_of ⟨rfl, trivial⟩) rfl rfl rfl rfl rfl
  refine athen_norm ?_
  refine awc_cond (b := (!x1) || (decide (1000 < (List.length p1 : Int)))) rfl (fun hc3 => ?_) (fun hc3 => ?_)
  · have hr := if_t hc3 hr
    refine awc_seq ?_
    refine awc_region ?_
    obtain ⟨x4, e5, hr⟩ := bnd_some hr
    refine awl_v (av_call (pAwake_runs e5).x ent5 rfl rfl) ?_
    refine awl_v (av_assign rfl) ?_
    have hr := Option.some.inj hr
    subst hr
    exact awl_nil (athen_norm (awc_ret (athen_ret (ret_q (l' := [(4, .bool x4)]) (wk_of hX [] 4 rfl rfl ⟨⟨_, rfl, cv0⟩, trivial⟩ trivial) rfl ⟨rfl, trivial⟩))))
  · have hr := if_f hc3 hr
    refine awc_skip (athen_norm (awc_seq ?_))
    refine awc_region ?_
    refine awl_v (av_move rfl) ?_
    obtain ⟨x6, e7, hr⟩ := bnd_some hr
    refine awl_v (av_call ((fp6_runs e7).t hT) ent6 rfl rfl) ?_
    refine awl_v (av_assign rfl) ?_
    refine awl_nil (athen_norm (awc_seq ?_))
    refine awc_region ?_
    refine awl_v (av_move rfl) ?_
    obtain ⟨x8, e9, hr⟩ := bnd_some hr
    refine awl_v (av_call ((fp7_runs e9).t hT) ent7 rfl rfl) ?_
    refine awl_v (av_move rfl) ?_
    refine awl_v (av_extract rfl rfl) ?_
    refine awl_v (av_extract rfl rfl) ?_
    refine awl_v (av_assign rfl) ?_
    refine awl_v (av_assign rfl) ?_
    refine awl_nil (athen_norm (awc_seq ?_))
    refine awc_region ?_
    refine awl_v (av_move rfl) ?_
    obtain ⟨x10, e11, hr⟩ := bnd_some hr
    refine awl_v (av_call ((fp8_runs e11).t hT) ent8 rfl rfl) ?_
    refine awl_v (av_move rfl) ?_
    refine awl_v (av_extract rfl rfl) ?_
    refine awl_v (av_extract rfl rfl) ?_
    refine awl_v (av_assign rfl) ?_
    refine awl_v (av_assign rfl) ?_
    refine awl_nil (athen_norm (awc_seq (awc_seq ?_)))
    obtain ⟨x12, e13, hr⟩ := bnd_some hr
    obtain ⟨h14, hr⟩ := chk_some hr
    refine awc_text [0, 4, 5, 6, 7, 8, 9] [(true, .str x6), (true, .sl Y1 p0), (true, .str x12), (true, .bool (!decide (x6 = x12))), (true, .bool (!decide (x6 = x12))), (!(!decide (x6 = x12)), .sl Y1 x8.1), (!(!decide (x6 = x12)), .sl Y1 x10.1), (!(!decide (x6 = x12)), .bool ((fp10 x8.1 x10.1).getD default)), (!(!decide (x6 = x12)), .bool (!((fp10 x8.1 x10.1).getD default))), (true, .bool ((!decide (x6 = x12)) || (!((fp10 x8.1 x10.1).getD default)))), (true, .bool ((!decide (x6 = x12)) || (!((fp10 x8.1 x10.1).getD default)))), (!((!decide (x6 = x12)) || (!((fp10 x8.1 x10.1).getD default))), .int .i64 x8.2), (!((!decide (x6 = x12)) || (!((fp10 x8.1 x10.1).getD default))), .int .i64 x10.2), (!((!decide (x6 = x12)) || (!((fp10 x8.1 x10.1).getD default))), .bool (!decide (x8.2 = x10.2))), (true, .bool (((!decide (x6 = x12)) || (!((fp10 x8.1 x10.1).getD default))) || (!decide (x8.2 = x10.2))))] [[], [], [1], [0, 2], [3], [4], [4], [5, 6, 4], [7, 4], [8, 4], [9], [10], [10], [11, 12, 10], [13, 10]] [14] rfl rfl rfl rfl rfl ⟨?_, ?_, ?_, ?_, ?_, ?_, ?_, ?_, ?_, ?_, ?_, ?_, ?_, ?_, ?_, trivial⟩ (allT_of ⟨rfl, trivial⟩) ?_
    · exact ob_v rfl (fun hg => allT_of trivial) (fun hg => av_move rfl)
    · exact ob_v rfl (fun hg => allT_of trivial) (fun hg => av_move rfl)
    · exact ob_v rfl (fun hg => allT_of ⟨rfl, trivial⟩) (fun hg => av_call ((fp9_runs e13).t hT) ent9 rfl rfl)
    · exact ob_v rfl (fun hg => allT_of ⟨rfl, rfl, trivial⟩) (fun hg => av_neqs rfl rfl)
    · exact ob_v rfl (fun hg => allT_of ⟨rfl, trivial⟩) (fun hg => av_move rfl)
    · exact ob_v ⟨rfl, rfl, rfl, _, rfl, rfl⟩ (fun hg => allT_of ⟨rfl, trivial⟩) (fun hg => av_move rfl)
    · exact ob_v ⟨rfl, rfl, rfl, _, rfl, rfl⟩ (fun hg => allT_of ⟨rfl, trivial⟩) (fun hg => av_move rfl)
    · exact ob_v ⟨rfl, rfl, rfl, _, rfl, rfl⟩ (fun hg => allT_of ⟨hg, hg, rfl, trivial⟩) (fun hg => av_call (fp10_runs (get_g h14 hg)).x ent10 rfl rfl)
    · exact ob_v ⟨rfl, rfl, rfl, _, rfl, rfl⟩ (fun hg => allT_of ⟨hg, rfl, trivial⟩) (fun hg => av_not rfl)
    · exact ob_pick (b := false) (p := !decide (x6 = x12)) (q := !((fp10 x8.1 x10.1).getD default)) rfl rfl rfl (fun hg => allT_of ⟨rfl, trivial⟩) rfl rfl rfl rfl rfl
    · exact ob_v rfl (fun hg => allT_of ⟨rfl, trivial⟩) (fun hg => av_move rfl)
    · exact ob_v ⟨rfl, rfl, rfl, _, rfl, rfl⟩ (fun hg => allT_of ⟨rfl, trivial⟩) (fun hg => av_move rfl)
    · exact ob_v ⟨rfl, rfl, rfl, _, rfl, rfl⟩ (fun hg => allT_of ⟨rfl, trivial⟩) (fun hg => av_move rfl)
    · exact ob_v ⟨rfl, rfl, rfl, _, rfl, rfl⟩ (fun hg => allT_of ⟨hg, hg, rfl, trivial⟩) (fun hg => av_neq rfl rfl)
    · exact ob_pick (b := false) (p := (!decide (x6 = x12)) || (!((fp10 x8.1 x10.1).getD default))) (q := !decide (x8.2 = x10.2)) rfl rfl rfl (fun hg => allT_of ⟨rfl, trivial⟩) rfl rfl rfl rfl rfl
    refine athen_norm ?_
    refine awc_cond (b := ((!decide (x6 = x12)) || (!((fp10 x8.1 x10.1).getD default))) || (!decide (x8.2 = x10.2))) rfl (fun hc15 => ?_) (fun hc15 => ?_)
    · have hr := if_t hc15 hr
      refine awc_seq ?_
      refine awc_region ?_
      refine awl_v (av_assign rfl) ?_
      have hr := Option.some.inj hr
      subst hr
      exact awl_nil (athen_norm (awc_ret (athen_ret (ret_q (l' := [(4, .bool false)]) (wk_of hX [] 4 rfl rfl ⟨⟨_, rfl, cv0⟩, trivial⟩ trivial) rfl ⟨rfl, trivial⟩))))
    · have hr := if_f hc15 hr
      refine awc_skip (athen_norm (awc_seq (awc_seq ?_)))
      refine awc_region ?_
      refine awl_v (av_move rfl) ?_
      obtain ⟨x16, e17, hr⟩ := bnd_some hr
      refine awl_v (av_call (fp11_runs e17).x ent11 rfl rfl) ?_
      refine awl_v (av_not rfl) ?_
      refine awl_nil (athen_norm ?_)
      refine awc_cond (b := !x16) rfl (fun hc18 => ?_) (fun hc18 => ?_)
      · have hr := if_t hc18 hr
        refine awc_seq ?_
        refine awc_region ?_
        obtain ⟨x19, e20, hr⟩ := bnd_some hr
        refine awl_v (av_call (pAwake_runs e20).x ent5 rfl rfl) ?_
        refine awl_v (av_assign rfl) ?_
        have hr := Option.some.inj hr
        subst hr
        exact awl_nil (athen_norm (awc_ret (athen_ret (ret_q (l' := [(4, .bool x19)]) (wk_of hX [] 4 rfl rfl ⟨⟨_, rfl, cv0⟩, trivial⟩ trivial) rfl ⟨rfl, trivial⟩))))
      · have hr := if_f hc18 hr
        refine awc_skip (athen_norm (awc_seq ?_))
        refine awc_region ?_
        refine awl_v (av_move rfl) ?_
        obtain ⟨x21, e22, hr⟩ := bnd_some hr
        refine awl_v (av_call ((fp7_runs e22).t hT) ent7 rfl rfl) ?_
        refine awl_v (av_move rfl) ?_
        refine awl_v (av_extract rfl rfl) ?_
        refine awl_v (av_extract rfl rfl) ?_
        refine awl_v (av_assign rfl) ?_
        refine awl_v (av_assign rfl) ?_
        refine awl_nil (athen_norm (awc_seq ?_))
        obtain ⟨h23, hr⟩ := chk_some hr
        obtain ⟨h24, hr⟩ := chk_some hr
        refine awc_text [0, 10, 11] [(true, .int .i64 x21.2), (true, .bool (decide (x21.2 = 0))), (true, .bool (decide (x21.2 = 0))), (decide (x21.2 = 0), .sl Y1 x21.1), (decide (x21.2 = 0), .sl Y1 p0), (decide (x21.2 = 0), .bool ((fp10 x21.1 p0).getD default)), (true, .bool ((decide (x21.2 = 0)) && ((fp10 x21.1 p0).getD default))), (true, .bool ((decide (x21.2 = 0)) && ((fp10 x21.1 p0).getD default))), ((decide (x21.2 = 0)) && ((fp10 x21.1 p0).getD default), .bool ((pAwake).getD default)), (true, .bool (((decide (x21.2 = 0)) && ((fp10 x21.1 p0).getD default)) && ((pAwake).getD default))), (true, .bool (((decide (x21.2 = 0)) && ((fp10 x21.1 p0).getD default)) && ((pAwake).getD default)))] [[], [0], [1], [2], [2], [3, 4, 2], [5, 2], [6], [7], [8, 7], [9]] [10] rfl rfl rfl rfl rfl ⟨?_, ?_, ?_, ?_, ?_, ?_, ?_, ?_, ?_, ?_, ?_, trivial⟩ (allT_of ⟨rfl, trivial⟩) ?_
        · exact ob_v rfl (fun hg => allT_of trivial) (fun hg => av_move rfl)
        · exact ob_v rfl (fun hg => allT_of ⟨rfl, trivial⟩) (fun hg => av_eql rfl rfl)
        · exact ob_v rfl (fun hg => allT_of ⟨rfl, trivial⟩) (fun hg => av_move rfl)
        · exact ob_v ⟨rfl, rfl, rfl, _, rfl, rfl⟩ (fun hg => allT_of ⟨rfl, trivial⟩) (fun hg => av_move rfl)
        · exact ob_v ⟨rfl, rfl, rfl, _, rfl, rfl⟩ (fun hg => allT_of ⟨rfl, trivial⟩) (fun hg => av_move rfl)
        · exact ob_v ⟨rfl, rfl, rfl, _, rfl, rfl⟩ (fun hg => allT_of ⟨hg, hg, rfl, trivial⟩) (fun hg => av_call (fp10_runs (get_g h23 hg)).x ent10 rfl rfl)
        · exact ob_pick (b := true) (p := decide (x21.2 = 0)) (q := ((fp10 x21.1 p0).getD default)) rfl rfl rfl (fun hg => allT_of ⟨rfl, trivial⟩) rfl rfl rfl rfl rfl
        · exact ob_v rfl (fun hg => allT_of ⟨rfl, trivial⟩) (fun hg => av_move rfl)
        · exact ob_v ⟨rfl, rfl, rfl, _, rfl, rfl⟩ (fun hg => allT_of ⟨rfl, trivial⟩) (fun hg => av_call (pAwake_runs (get_g h24 hg)).x ent5 rfl rfl)
        · exact ob_pick (b := true) (p := (decide (x21.2 = 0)) && ((fp10 x21.1 p0).getD default)) (q := ((pAwake).getD default)) rfl rfl rfl (fun hg => allT_of ⟨rfl, trivial⟩) rfl rfl rfl rfl rfl
        · exact ob_v rfl (fun hg => allT_of ⟨rfl, trivial⟩) (fun hg => av_assign rfl)
        have hr := Option.some.inj hr
        subst hr
        exact athen_norm (awc_ret (ret_q (l' := [(4, .bool (((decide (x21.2 = 0)) && ((fp10 x21.1 p0).getD default)) && ((pAwake).getD default)))]) (wk_of hX [] 4 rfl rfl ⟨⟨_, rfl, cv0⟩, trivial⟩ trivial) rfl ⟨rfl, trivial⟩))
end Go.Ab


set_option linter.unusedVariables false
set_option maxRecDepth 100000
namespace Go.Ab
open Go
def kindsL : List (Str × List Str × Int) := (fp15).getD []
theorem fp15_eq : fp15 = some kindsL := rfl
def kindAt (k : Int) : Str × List Str × Int := kindsL.getD (k - 1).toNat default
def leastK (k : Int) : Int := min ((kindAt k).2.1.length : Int) 1
def validP (p : Int × Int) : Bool := decide (1 ≤ p.1) && decide (p.1 ≤ 13) && decide (leastK p.1 ≤ p.2) && decide (p.2 ≤ (kindAt p.1).2.2)
theorem k13 {k : Int} (h1 : 1 ≤ k) (h2 : k ≤ 13) : k = 1 ∨ k = 2 ∨ k = 3 ∨ k = 4 ∨ k = 5 ∨ k = 6 ∨ k = 7 ∨ k = 8 ∨ k = 9 ∨ k = 10 ∨ k = 11 ∨ k = 12 ∨ k = 13 := by omega
theorem fp52_eq {k : Int} (h1 : 1 ≤ k) (h2 : k ≤ 13) : fp52 k = some (leastK k) := by
  rcases k13 h1 h2 with rfl | rfl | rfl | rfl | rfl | rfl | rfl | rfl | rfl | rfl | rfl | rfl | rfl <;> rfl
theorem aig_kinds {k : Int} (h1 : 1 ≤ k) (h2 : k ≤ 13) : aig 13 kindsL (w64 (k - 1)) = some (kindAt k) := by
  rcases k13 h1 h2 with rfl | rfl | rfl | rfl | rfl | rfl | rfl | rfl | rfl | rfl | rfl | rfl | rfl <;> rfl
theorem fp36_eq (p : Int × Int) : fp36 p = some (validP p) := by
  unfold fp36 fp57
  simp only [Option.bind_some]
  by_cases h : 1 ≤ p.1 ∧ p.1 ≤ 13
  · rw [fp52_eq h.1 h.2, fp15_eq]
    simp only [Option.getD_some, Option.isSome_some, Bool.or_true, cond_true, aig_kinds h.1 h.2, validP]
  · have hb : (decide (1 ≤ p.1) && decide (p.1 ≤ 13)) = false := by
      rw [Bool.eq_false_iff]; intro hc; apply h; simpa using hc
    simp only [hb, Bool.not_false, Bool.true_or, cond_true, Bool.false_and, validP]
theorem fp25_len {k : Int} (h1 : 1 ≤ k) (h2 : k ≤ 13) : fp25 k = some ((kindAt k).1 :: (kindAt k).2.1) := by
  rcases k13 h1 h2 with rfl | rfl | rfl | rfl | rfl | rfl | rfl | rfl | rfl | rfl | rfl | rfl | rfl <;> rfl
theorem fp26_eq (p : Int × Int) : fp26 p = some (validP p) := by
  unfold fp26 fp46
  simp only [Option.bind_some]
  by_cases h : 1 ≤ p.1 ∧ p.1 ≤ 13
  · obtain ⟨k, v⟩ := p
    obtain ⟨h1, h2⟩ := h
    simp only at h1 h2 ⊢
    rw [fp25_len h1 h2]
    simp only [Option.isSome_some, Bool.or_true, cond_true, Option.getD_some, validP]
    rcases k13 h1 h2 with rfl | rfl | rfl | rfl | rfl | rfl | rfl | rfl | rfl | rfl | rfl | rfl | rfl <;>
      simp [kindAt, kindsL, fp15, leastK] <;> (first | rfl | (rw [Bool.eq_iff_iff]; simp; omega))
  · have hb : (decide (1 ≤ p.1) && decide (p.1 ≤ 13)) = false := by
      rw [Bool.eq_false_iff]; intro hc; apply h; simpa using hc
    simp only [hb, Bool.not_false, cond_true, validP, Bool.false_and]
theorem fp11_14 (s : List (Int × Int)) : fp11 s = fp14 s := by
  unfold fp11 fp14
  have : fp11_b0 s = fp14_b0 s := by
    funext i u
    unfold fp11_b0 fp14_b0
    simp only [fp26_eq, fp36_eq]
  rw [this]
end Go.Ab


set_option linter.unusedVariables false
set_option maxRecDepth 100000
namespace Go.Ab
open Go
theorem w64_pred {i : Nat} (h : i ≤ 140737488355328) : w64 ((i : Int) - 1) = (i : Int) - 1 := w64_id (by unfold R64; omega)
theorem fp14_tot (s : List (Int × Int)) (h : s.length ≤ 140737488355328) : Tot (fp14 s) fun b => b = true → ∀ p ∈ s, validP p = true := by
  unfold fp14
  rw [toNat_len]
  refine Tot.bind (Q := fun o => match o with
    | .inl _ => ∀ p ∈ s, validP p = true
    | .inr _ => True) ?_ ?_
  · refine Tot.mono (tot_rngx (Inv := fun i _ => ∀ j, j < i → validP (s.getD j default) = true) (Ex := fun _ => True) (fun j hj => absurd hj (by omega)) ?_) ?_
    · intro i u hi hinv
      unfold fp14_b0
      refine tot_ix hi ?_
      rw [fp36_eq]
      simp only [Option.bind_some]
      refine tot_need ?_ ?_
      · cases hv : validP (s.getD i default)
        · simp
        · by_cases h0 : 0 < (i : Int)
          · have : (i : Int) - 1 = ((i - 1 : Nat) : Int) := by omega
            rw [w64_pred (by omega), this, ix_getD (by omega)]; simp
          · simp [show i = 0 by omega]
      · refine tot_if (fun _ => tot_some (.inr ⟨_, rfl, trivial⟩)) (fun hc => tot_some (.inl ⟨_, rfl, ?_⟩))
        intro j hj
        by_cases e : j = i
        · subst e
          cases hv : validP (s.getD j default)
          · rw [hv] at hc; simp at hc
          · rfl
        · exact hinv j (by omega)
    · rintro o (⟨_, rfl, hinv⟩ | ⟨_, rfl, _⟩)
      · intro p hp
        obtain ⟨j, hj, rfl⟩ := mem_getD default hp
        exact hinv j hj
      · trivial
  · rintro (_ | _) hq
    · exact tot_some fun _ => hq
    · exact tot_some fun h => by cases h
def wordP (p : Int × Int) : Str := if 0 < (kindAt p.1).2.1.length then (kindAt p.1).2.1.getD (p.2 - 1).toNat [] else Lib.itoa p.2
def item (p : Int × Int) : Str := (kindAt p.1).1 ++ [32] ++ wordP p
def fmtS (s : List (Int × Int)) : Str := Lib.join (s.map item) [44, 32]
theorem valid_k {p : Int × Int} (h : validP p = true) : 1 ≤ p.1 ∧ p.1 ≤ 13 ∧ leastK p.1 ≤ p.2 ∧ p.2 ≤ (kindAt p.1).2.2 := by
  simpa [validP, and_assoc] using h
theorem kind_facts {k : Int} (h1 : 1 ≤ k) (h2 : k ≤ 13) : (kindAt k).1.length ≤ 9 ∧ (0 < (kindAt k).2.1.length → (kindAt k).2.2 = (kindAt k).2.1.length ∧ leastK k = 1 ∧ (kindAt k).2.1.length ≤ 4) ∧ (¬ 0 < (kindAt k).2.1.length → leastK k = 0 ∧ (kindAt k).2.2 ≤ 1000000) ∧ (∀ w ∈ (kindAt k).2.1, w.length ≤ 11) := by
  rcases k13 h1 h2 with rfl | rfl | rfl | rfl | rfl | rfl | rfl | rfl | rfl | rfl | rfl | rfl | rfl <;> decide
theorem word_len {p : Int × Int} (h : validP p = true) : (wordP p).length ≤ 21 := by
  obtain ⟨h1, h2, h3, h4⟩ := valid_k h
  obtain ⟨g1, g2, g3, g4⟩ := kind_facts h1 h2
  unfold wordP
  split
  · rename_i hp
    obtain ⟨a, b, c⟩ := g2 hp
    have := g4 _ (getD_mem (d := ([] : Str)) (x := (kindAt p.1).2.1) (j := (p.2 - 1).toNat) (by omega))
    omega
  · rename_i hp
    obtain ⟨a, b⟩ := g3 hp
    exact Lib.itoa_length_le _ (by omega) (by omega)
theorem item_len {p : Int × Int} (h : validP p = true) : (item p).length ≤ 31 := by
  obtain ⟨h1, h2, _, _⟩ := valid_k h
  have := (kind_facts h1 h2).1
  have := word_len h
  unfold item
  simp only [List.length_append, List.length_cons, List.length_nil]
  omega
theorem itoa_some {v : Int} (h0 : 0 ≤ v) (h1 : v ≤ 1000000) : fItoa v = some (Lib.itoa v) := by
  unfold fItoa
  have : (decide (-9223372036854775808 ≤ v) && decide (v ≤ 9223372036854775807)) = true := by simp; omega
  rw [this]; rfl
theorem valid_v {p : Int × Int} (h : validP p = true) : 0 ≤ p.2 ∧ p.2 ≤ 1000000 := by
  obtain ⟨h1, h2, h3, h4⟩ := valid_k h
  obtain ⟨g1, g2, g3, g4⟩ := kind_facts h1 h2
  by_cases hp : 0 < (kindAt p.1).2.1.length
  · obtain ⟨a, b, c⟩ := g2 hp; omega
  · obtain ⟨a, b⟩ := g3 hp; omega
theorem fp6_step {s : List (Int × Int)} {i : Nat} {acc : List Str} (hi : i < s.length) (hv : validP (s.getD i default) = true) (ha : acc.length ≤ 100000000) : fp6_b0 s i acc = some (.inl (acc ++ [item (s.getD i default)])) := by
  unfold fp6_b0
  rw [ix_getD hi]
  simp only [Option.bind_some]
  obtain ⟨p, hp⟩ : ∃ p, p = s.getD i default := ⟨_, rfl⟩
  rw [← hp] at hv ⊢
  obtain ⟨h1, h2, h3, h4⟩ := valid_k hv
  obtain ⟨g1, g2, g3, g4⟩ := kind_facts h1 h2
  have hvv := valid_v hv
  rw [fp15_eq, Option.bind_some, aig_kinds h1 h2, Option.bind_some, itoa_some hvv.1 hvv.2, Option.bind_some]
  have hw : ((bif decide (0 < (List.length (kindAt p.1).2.1 : Int)) then ((ix (kindAt p.1).2.1 (w64 (p.2 - 1))).bind fun x26 => some (.inl x26)) else (some (.inl (Lib.itoa p.2)))) : Option (Str ⊕ Unit)) = some (.inl (wordP p)) := by
    unfold wordP
    by_cases hp0 : 0 < (kindAt p.1).2.1.length
    · obtain ⟨a, b, c⟩ := g2 hp0
      have e1 : decide (0 < (List.length (kindAt p.1).2.1 : Int)) = true := by simp; omega
      rw [e1, cond_true, if_pos hp0, w64_id (by unfold R64; omega), ix_int (by omega) (by omega)]
      rfl
    · have e1 : decide (0 < (List.length (kindAt p.1).2.1 : Int)) = false := decide_eq_false (by (try simp only [List.length_cons]); omega)
      rw [e1, cond_false, if_neg hp0]
  rw [hw, Option.bind_some]
  have hl := word_len hv
  have b1 : strOk (List.length (kindAt p.1).1 + List.length ([32] : Str)) = true := strOk_t (by simp; omega)
  have b2 : strOk (List.length ((kindAt p.1).1 ++ ([32] : Str)) + List.length (wordP p)) = true := strOk_t (by simp; omega)
  have b3 : apOk 16 (List.length acc + List.length [(((kindAt p.1).1 ++ ([32] : Str)) ++ wordP p)]) = true := apOk_t (by simp; omega)
  simp only [b1, b2, b3, cond_true]
  rfl
theorem fp9_step {s : List (Int × Int)} {i : Nat} {acc : List Str} (hi : i < s.length) (hv : validP (s.getD i default) = true) (ha : acc.length ≤ 100000000) : fp9_b0 s i acc = some (.inl (acc ++ [item (s.getD i default)])) := by
  unfold fp9_b0
  rw [ix_getD hi]
  simp only [Option.bind_some]
  obtain ⟨p, hp⟩ : ∃ p, p = s.getD i default := ⟨_, rfl⟩
  rw [← hp] at hv ⊢
  obtain ⟨h1, h2, h3, h4⟩ := valid_k hv
  obtain ⟨g1, g2, g3, g4⟩ := kind_facts h1 h2
  have hvv := valid_v hv
  rw [fp25_len h1 h2, Option.bind_some, itoa_some hvv.1 hvv.2, Option.bind_some]
  have hw : ((bif decide (1 < (List.length ((kindAt p.1).1 :: (kindAt p.1).2.1) : Int)) then ((ix ((kindAt p.1).1 :: (kindAt p.1).2.1) p.2).bind fun x24 => some (.inl x24)) else (some (.inl (Lib.itoa p.2)))) : Option (Str ⊕ Unit)) = some (.inl (wordP p)) := by
    unfold wordP
    by_cases hp0 : 0 < (kindAt p.1).2.1.length
    · obtain ⟨a, b, c⟩ := g2 hp0
      have e1 : decide (1 < (List.length ((kindAt p.1).1 :: (kindAt p.1).2.1) : Int)) = true := by simp; omega
      rw [e1, cond_true, if_pos hp0, ix_int (by omega) (by simp only [List.length_cons]; omega)]
      obtain ⟨n, hn⟩ : ∃ n : Nat, p.2 = n + 1 := ⟨(p.2 - 1).toNat, by omega⟩
      rw [hn, show ((n : Int) + 1).toNat = n + 1 by omega, show ((n : Int) + 1 - 1).toNat = n by omega]
      rfl
    · have e1 : decide (1 < (List.length ((kindAt p.1).1 :: (kindAt p.1).2.1) : Int)) = false := decide_eq_false (by (try simp only [List.length_cons]); omega)
      rw [e1, cond_false, if_neg hp0]
  rw [hw, Option.bind_some]
  have hl := word_len hv
  have hx : ix ((kindAt p.1).1 :: (kindAt p.1).2.1) 0 = some (kindAt p.1).1 := rfl
  simp only [hx, Option.bind_some]
  have b1 : strOk (List.length (kindAt p.1).1 + List.length ([32] : Str)) = true := strOk_t (by simp; omega)
  have b2 : strOk (List.length ((kindAt p.1).1 ++ ([32] : Str)) + List.length (wordP p)) = true := strOk_t (by simp; omega)
  have b3 : apOk 16 (List.length acc + List.length [(((kindAt p.1).1 ++ ([32] : Str)) ++ wordP p)]) = true := apOk_t (by simp; omega)
  simp only [b1, b2, b3, cond_true]
  rfl
theorem join_len {B : Nat} {sep : Str} : ∀ {xs : List Str}, (∀ x ∈ xs, x.length ≤ B) → (Lib.join xs sep).length ≤ xs.length * (B + sep.length) := by
  intro xs h
  cases xs with
  | nil => simp [Lib.join_nil]
  | cons x r =>
    rw [Lib.join_cons, List.length_append]
    have h2 : (Lib.joinTail sep r).length ≤ r.length * (B + sep.length) := by
      have hr : ∀ y ∈ r, y.length ≤ B := fun y hy => h y (by simp [hy])
      clear h
      induction r with
      | nil => simp [Lib.joinTail]
      | cons y r ih =>
        have := ih (fun z hz => hr z (by simp [hz]))
        have h3 := hr y (by simp)
        simp only [Lib.joinTail, List.map_cons, List.flatten_cons, List.length_append, List.length_cons, Nat.add_mul] at this ⊢
        omega
    have h1 := h x (by simp)
    rw [List.length_cons, Nat.add_mul]
    omega
theorem fmt_join {s : List (Int × Int)} (hl : s.length ≤ 1000000) (hv : ∀ p ∈ s, validP p = true) : fJoin (s.map item) [44, 32] = some (fmtS s) := by
  unfold fJoin
  have h1 : (Lib.join (s.map item) [44, 32]).length ≤ (s.map item).length * (31 + 2) := join_len (fun x hx => by obtain ⟨p, hp, rfl⟩ := List.mem_map.1 hx; exact item_len (hv p hp))
  rw [List.length_map] at h1
  have : (Nat.ble (s.map item).length 140737488355328 && Nat.ble (Lib.join (s.map item) [44, 32]).length 140737488355328) = true := by
    rw [Bool.and_eq_true, Nat.ble_eq, Nat.ble_eq, List.length_map]; omega
  rw [this]; rfl
theorem fmt_tot {g : Int → List Str → Option (List Str ⊕ Unit)} {s : List (Int × Int)} (hl : s.length ≤ 1000000) (hv : ∀ p ∈ s, validP p = true)
    (hg : ∀ (i : Nat) (acc : List Str), i < s.length → validP (s.getD i default) = true → acc.length ≤ 100000000 → g i acc = some (.inl (acc ++ [item (s.getD i default)]))) :
    rng g s.length 0 [] = some (.inl (s.map item)) := by
  refine Tot.eq (Tot.mono (tot_rng (Inv := fun i acc => acc = (s.take i).map item) (by simp) ?_) ?_)
  · rintro i acc hi rfl
    rw [hg i _ hi (hv _ (getD_mem hi)) (by simp; omega)]
    exact tot_some ⟨_, rfl, by rw [take_snoc default hi]; simp⟩
  · rintro o ⟨acc, rfl, h⟩
    rw [h, List.take_length]
theorem fp6_t {s : List (Int × Int)} (hl : s.length ≤ 1000000) {b : Bool} (hb : fp14 s = some b) (hv : b = true → ∀ p ∈ s, validP p = true) : fp6 s = some (if b then fmtS s else []) := by
  unfold fp6
  rw [hb, Option.bind_some, toNat_len]
  cases b
  · rfl
  · simp only [Bool.not_true, cond_false]
    rw [fmt_tot hl (hv rfl) (fun i acc a b c => fp6_step a b c), Option.bind_some]
    simp only [fmt_join hl (hv rfl)]
    rfl
theorem fp9_t {s : List (Int × Int)} (hl : s.length ≤ 1000000) {b : Bool} (hb : fp14 s = some b) (hv : b = true → ∀ p ∈ s, validP p = true) : fp9 s = some (if b then fmtS s else []) := by
  unfold fp9
  rw [fp11_14, hb, Option.bind_some, toNat_len]
  cases b
  · rfl
  · simp only [Bool.not_true, cond_false]
    rw [fmt_tot hl (hv rfl) (fun i acc a b c => fp9_step a b c), Option.bind_some]
    simp only [fmt_join hl (hv rfl)]
    rfl
end Go.Ab


set_option linter.unusedVariables false
set_option maxRecDepth 100000
namespace Go.Ab
open Go
/-! numerals are read back -/
theorem pu_snoc : ∀ (l : Str) (c : UInt8) (acc v : Nat), Lib.parseUint10 acc l = .ok v → Lib.parseUint10 acc (l ++ [c]) = Lib.parseUint10 v [c] := by
  intro l
  induction l with
  | nil => intro c acc v h; simp only [Lib.parseUint10] at h; cases h; rfl
  | cons d l ih =>
    intro c acc v h
    rw [List.cons_append]
    unfold Lib.parseUint10 at h ⊢
    split at h
    · rename_i hd
      rw [if_pos hd]
      split at h
      · cases h
      · rename_i h1
        rw [if_neg h1]
        split at h
        · cases h
        · rename_i h2
          rw [if_neg h2]
          exact ih c _ v h
    · cases h
theorem digit_nat {d : Nat} (h : d < 10) : (UInt8.ofNat (48 + d)).toNat = 48 + d := by
  rw [UInt8.toNat_ofNat']; omega
theorem decDigits_all (u : Nat) : ∀ c ∈ Lib.decDigits u, 48 ≤ c.toNat ∧ c.toNat ≤ 57 := by
  induction u using Nat.strongRecOn with
  | _ u ih =>
    intro c hc
    rw [Lib.decDigits] at hc
    split at hc
    · rename_i h
      rw [List.mem_singleton.1 hc, digit_nat h]; omega
    · rename_i h
      rcases List.mem_append.1 hc with hc | hc
      · exact ih (u / 10) (by omega) c hc
      · rw [List.mem_singleton.1 hc, digit_nat (by omega)]; omega
theorem pu_one {u d : Nat} (hd : d < 10) (h : u * 10 + d < 18446744073709551616) : Lib.parseUint10 u [UInt8.ofNat (48 + d)] = .ok (u * 10 + d) := by
  simp only [Lib.parseUint10, digit_nat hd]
  rw [if_pos (by omega), if_neg (by omega), if_neg (by omega)]
  rw [show 48 + d - 48 = d by omega]
theorem pu_digits (u : Nat) (h : u < 18446744073709551616) : Lib.parseUint10 0 (Lib.decDigits u) = .ok u := by
  induction u using Nat.strongRecOn with
  | _ u ih =>
    rw [Lib.decDigits]
    split
    · rename_i h1
      have := pu_one (u := 0) h1 (by omega)
      simpa using this
    · rename_i h1
      rw [pu_snoc _ _ 0 (u / 10) (ih (u / 10) (by omega) (by omega)), pu_one (by omega) (by omega)]
      rw [show u / 10 * 10 + u % 10 = u by omega]
theorem decDigits_ne (u : Nat) : Lib.decDigits u ≠ [] := by
  intro h
  have := Lib.decDigits_length u
  rw [h] at this
  have := Lib.nDigits_pos u
  simp at *; omega
theorem atoi_itoa {n : Int} (h0 : 0 ≤ n) (h1 : n ≤ 9223372036854775807) : Lib.atoiAll (Lib.itoa n) = .ok n := by
  unfold Lib.itoa
  rw [if_neg (by omega)]
  obtain ⟨c, r, hcr⟩ := List.exists_cons_of_ne_nil (decDigits_ne n.toNat)
  have hc := decDigits_all n.toNat c (by rw [hcr]; simp)
  have hp := pu_digits n.toNat (by omega)
  rw [hcr] at hp ⊢
  rw [Lib.atoiAll_plain c r (by omega) (by omega)]
  unfold Lib.parseMag
  rw [if_neg (by simp), hp]
  simp only [Lib.signless]
  rw [if_neg (by omega)]
  congr 1; omega
theorem fAtoi_itoa {n : Int} (h0 : 0 ≤ n) (h1 : n ≤ 1000000) : fAtoi (Lib.itoa n) = some (n, ()) := by
  unfold fAtoi
  have hl := Lib.itoa_length_le n (by omega) (by omega)
  have : Nat.ble (Lib.itoa n).length 281474976710656 = true := by rw [Nat.ble_eq]; omega
  rw [this, atoi_itoa h0 (by omega)]; rfl
/-! what stands ahead of a separator -/
theorem index_no {a : UInt8} {sep : Str} : ∀ {x : Str}, a ∉ x → Lib.index x (a :: sep) = -1 := by
  intro x
  induction x with
  | nil => intro _; rfl
  | cons b x ih =>
    intro h
    have h1 : b ≠ a := fun e => h (by simp [e])
    unfold Lib.index
    have : List.isPrefixOf (a :: sep) (b :: x) = false := by simp [List.isPrefixOf, Ne.symm h1]
    rw [this, ih (fun hm => h (by simp [hm]))]
    rfl
theorem index_at {a : UInt8} {sep r : Str} : ∀ {x : Str}, a ∉ x → Lib.index (x ++ (a :: sep) ++ r) (a :: sep) = x.length := by
  intro x
  induction x with
  | nil =>
    intro _
    simp only [List.nil_append, List.cons_append]
    unfold Lib.index
    have : List.isPrefixOf (a :: sep) (a :: (sep ++ r)) = true := by simp [List.isPrefixOf]
    rw [this]; rfl
  | cons b x ih =>
    intro h
    have h1 : b ≠ a := fun e => h (by simp [e])
    simp only [List.cons_append]
    unfold Lib.index
    have : List.isPrefixOf (a :: sep) (b :: (x ++ a :: (sep ++ r))) = false := by simp [List.isPrefixOf, Ne.symm h1]
    have h2 := ih (fun hm => h (by simp [hm]))
    simp only [List.append_assoc, List.cons_append] at h2 ⊢
    rw [this, h2]
    have : ((x.length : Int) == -1) = false := by rw [beq_eq_false_iff_ne]; omega
    rw [this]
    simp
theorem split_miss {t sep : Str} (h : Lib.index t sep = -1) : Lib.split t sep = [t] := by
  unfold Lib.split
  rw [Lib.count_miss h]; rfl
theorem split_hit {t sep : Str} {i : Nat} (hs : sep ≠ []) (h : Lib.index t sep = i) : Lib.split t sep = t.take i :: Lib.split (t.drop (i + sep.length)) sep := by
  unfold Lib.split
  rw [Lib.count_hit hs h, Nat.add_comm]
  have hne : (Lib.index t sep == -1) = false := by rw [h, beq_eq_false_iff_ne]; omega
  simp only [Lib.splitK, hne, Bool.false_eq_true, if_false, Nat.add_zero]
  rw [show (Lib.index t sep).toNat = i by omega]
theorem split_join {a : UInt8} {sep : Str} : ∀ {xs : List Str}, xs ≠ [] → (∀ x ∈ xs, a ∉ x) → Lib.split (Lib.join xs (a :: sep)) (a :: sep) = xs := by
  intro xs
  induction xs with
  | nil => intro h; exact absurd rfl h
  | cons x r ih =>
    intro _ h
    have hx := h x (by simp)
    rw [Lib.join_cons]
    cases r with
    | nil =>
      simp only [Lib.joinTail, List.map_nil, List.flatten_nil, List.append_nil]
      rw [split_miss (index_no hx)]
    | cons y r =>
      have h3 := ih (by simp) (fun z hz => h z (by simp [hz]))
      rw [Lib.join_cons] at h3
      have e : x ++ Lib.joinTail (a :: sep) (y :: r) = x ++ (a :: sep) ++ (y ++ Lib.joinTail (a :: sep) r) := by simp [Lib.joinTail, List.append_assoc]
      rw [e, split_hit (by simp) (index_at hx)]
      have e1 : List.take x.length (x ++ (a :: sep) ++ (y ++ Lib.joinTail (a :: sep) r)) = x := by rw [List.append_assoc, List.take_left']; rfl
      have e2 : List.drop (x.length + (a :: sep).length) (x ++ (a :: sep) ++ (y ++ Lib.joinTail (a :: sep) r)) = y ++ Lib.joinTail (a :: sep) r := by
        rw [show x.length + (a :: sep).length = (x ++ (a :: sep)).length by simp]
        exact List.drop_left' rfl
      rw [e1, e2, h3]
theorem cut_at {a : UInt8} {x r : Str} (h : a ∉ x) : Lib.cut (x ++ [a] ++ r) [a] = (x, r, true) := by
  have h1 := index_at (sep := []) (r := r) h
  unfold Lib.cut
  rw [h1, if_pos (by omega)]
  have e1 : List.take x.length (x ++ [a] ++ r) = x := by rw [List.append_assoc, List.take_left']; rfl
  have e2 : List.drop (x.length + [a].length) (x ++ [a] ++ r) = r := by
    rw [show x.length + [a].length = (x ++ [a]).length by simp]
    exact List.drop_left' rfl
  simp only [Int.toNat_natCast, e1, e2]
/-! splitting as a loop over a function -/
def foldX {σ α R : Type} (q : σ → α → Option (σ ⊕ R)) : σ → List α → Option (σ ⊕ R)
  | s, [] => some (.inl s)
  | s, x :: xs => (q s x).bind fun o => match o with
    | .inl s' => foldX q s' xs
    | .inr r => some (.inr r)
theorem fp61_go {σ R : Type} (q : σ → Str → Option (σ ⊕ R)) : ∀ (n fuel : Nat) (s : σ) (t : Str), t.length ≤ n → n + 2 ≤ fuel → t.length ≤ 1000000 →
    ((lrun (fp61_b1 q ([44, 32] : Str) 0) fuel (s, t)).bind fun o => match o with
      | .inl (s9, s10) => ((q s9 s10).bind fun o15 => match o15 with
        | .inl s17 => (some (.inl s17))
        | .inr r18 => (some (.inr r18)))
      | .inr (s11, s12) => (some (.inr s11))) = foldX q s (Lib.split t [44, 32]) := by
  intro n
  induction n with
  | zero =>
    intro fuel s t ht hf hl
    obtain ⟨f, rfl⟩ : ∃ f, fuel = f + 1 := ⟨fuel - 1, by omega⟩
    have : t = [] := List.eq_nil_of_length_eq_zero (by omega)
    subst this
    rw [split_miss rfl]
    have e : fp61_b1 q ([44, 32] : Str) 0 (s, []) = some (.inr (.inl (s, []))) := rfl
    simp only [lrun, e, Option.bind_some, foldX]
  | succ n ih =>
    intro fuel s t ht hf hl
    obtain ⟨f, rfl⟩ : ∃ f, fuel = f + 1 := ⟨fuel - 1, by omega⟩
    have hfi : fIndex t ([44, 32] : Str) = some (Lib.index t [44, 32]) := by
      unfold fIndex
      have : Nat.blt t.length 4294967281 = true := by rw [Nat.blt_eq]; omega
      rw [this]; rfl
    rcases Lib.index_spec t [44, 32] with ⟨h1, _⟩ | ⟨i, h1, h2, h3, _⟩
    · rw [split_miss h1]
      have e : fp61_b1 q ([44, 32] : Str) 0 (s, t) = some (.inr (.inl (s, t))) := by
        unfold fp61_b1
        simp only [hfi, h1, Option.bind_some]
        rfl
      simp only [lrun, e, Option.bind_some, foldX]
    · have hr := Lib.index_room t [44, 32] (by omega)
      rw [h1] at hr
      simp only [List.length_cons, List.length_nil] at hr
      rw [split_hit (by simp) h1]
      have w1 : w64 ((i : Int) + 0) = i := w64_id (by unfold R64; omega)
      have w2 : w64 ((i : Int) + (List.length ([44, 32] : Str) : Int)) = ((i + 2 : Nat) : Int) := by rw [w64_id (by unfold R64; simp; omega)]; simp
      have e : fp61_b1 q ([44, 32] : Str) 0 (s, t) = (q s (t.take i)).bind fun o23 => match o23 with
          | .inl s25 => some (.inl (s25, t.drop (i + 2)))
          | .inr r26 => (some (.inr (.inr (r26, t)))) := by
        unfold fp61_b1
        simp only [hfi, h1, Option.bind_some, w1, w2]
        have d1 : decide ((i : Int) < 0) = false := decide_eq_false (by omega)
        have d2 : slOk 0 (i : Int) t.length = true := slOk_t (by omega) (by omega) (by omega)
        have d3 : slOk ((i + 2 : Nat) : Int) (t.length : Int) t.length = true := slOk_t (by omega) (by omega) (by omega)
        simp only [d1, d2, d3, cond_true, cond_false, Int.toNat_natCast, List.take_length]
        rfl
      simp only [lrun, e, foldX]
      cases q s (t.take i) with
      | none => rfl
      | some o =>
        cases o with
        | inl s' =>
          simp only [Option.bind_some]
          exact ih f s' (t.drop (i + 2)) (by rw [List.length_drop]; omega) (by omega) (by rw [List.length_drop]; omega)
        | inr r => rfl
theorem fp61_fold {σ R : Type} (q : σ → Str → Option (σ ⊕ R)) (s : σ) (t : Str) (hl : t.length ≤ 1000000) : fp61 q s ([44, 32] : Str) t 0 = foldX q s (Lib.split t [44, 32]) := by
  unfold fp61
  have : decide ((List.length ([44, 32] : Str) : Int) = 0) = false := rfl
  rw [this, cond_false]
  exact fp61_go q t.length _ s t (Nat.le_refl _) (Nat.le_refl _) hl
end Go.Ab


set_option linter.unusedVariables false
set_option maxRecDepth 100000
namespace Go.Ab
open Go
theorem name_chars {k : Int} (h1 : 1 ≤ k) (h2 : k ≤ 13) : (∀ c ∈ (kindAt k).1, c ≠ 32 ∧ c ≠ 44) ∧ ∀ w ∈ (kindAt k).2.1, ∀ c ∈ w, c ≠ 44 := by
  rcases k13 h1 h2 with rfl | rfl | rfl | rfl | rfl | rfl | rfl | rfl | rfl | rfl | rfl | rfl | rfl <;> decide +kernel
theorem word_no {p : Int × Int} (h : validP p = true) : (44 : UInt8) ∉ wordP p := by
  obtain ⟨h1, h2, h3, h4⟩ := valid_k h
  obtain ⟨g1, g2, g3, g4⟩ := kind_facts h1 h2
  unfold wordP
  split
  · rename_i hp
    obtain ⟨a, b, c⟩ := g2 hp
    intro hm
    exact (name_chars h1 h2).2 _ (getD_mem (d := ([] : Str)) (x := (kindAt p.1).2.1) (j := (p.2 - 1).toNat) (by omega)) _ hm rfl
  · intro hm
    have hv := valid_v h
    unfold Lib.itoa at hm
    rw [if_neg (by omega)] at hm
    have := decDigits_all _ _ hm
    simp at this
theorem item_no {p : Int × Int} (h : validP p = true) : (44 : UInt8) ∉ item p := by
  obtain ⟨h1, h2, _, _⟩ := valid_k h
  intro hm
  unfold item at hm
  rcases List.mem_append.1 hm with hm | hm
  · rcases List.mem_append.1 hm with hm | hm
    · exact ((name_chars h1 h2).1 _ hm).2 rfl
    · simp at hm
  · exact word_no h hm
theorem cut_item {p : Int × Int} (h : validP p = true) : fCut (item p) ([32] : Str) = some ((kindAt p.1).1, wordP p, true) := by
  obtain ⟨h1, h2, _, _⟩ := valid_k h
  unfold fCut
  have hl := item_len h
  have : Nat.blt (item p).length 4294967281 = true := by rw [Nat.blt_eq]; omega
  rw [this, cond_true]
  unfold item
  rw [cut_at (fun hm => ((name_chars h1 h2).1 _ hm).1 rfl)]
theorem fp20_name {k : Int} (h1 : 1 ≤ k) (h2 : k ≤ 13) : fp20 (kindsL.take (Int.toNat 13)) (fun y1 => fp21 y1 (kindAt k).1) = some (k - 1) := by
  rcases k13 h1 h2 with rfl | rfl | rfl | rfl | rfl | rfl | rfl | rfl | rfl | rfl | rfl | rfl | rfl <;> decide +kernel
theorem aig_kinds' {k : Int} (h1 : 1 ≤ k) (h2 : k ≤ 13) : aig 13 kindsL (k - 1) = some (kindAt k) := by
  rcases k13 h1 h2 with rfl | rfl | rfl | rfl | rfl | rfl | rfl | rfl | rfl | rfl | rfl | rfl | rfl <;> rfl
theorem fp22_words {k : Int} (h1 : 1 ≤ k) (h2 : k ≤ 13) : ∀ v, v < (kindAt k).2.1.length → fp22 (kindAt k).2.1 ((kindAt k).2.1.getD v []) = some (v : Int) := by
  rcases k13 h1 h2 with rfl | rfl | rfl | rfl | rfl | rfl | rfl | rfl | rfl | rfl | rfl | rfl | rfl <;> decide +kernel
theorem fp8_words {k : Int} (h1 : 1 ≤ k) (h2 : k ≤ 13) : ∀ v, v < (kindAt k).2.1.length → ((fAtoi ((kindAt k).2.1.getD v [])).bind fun x37 => lrun (fp8_b2 ((kindAt k).1, (kindAt k).2.1.getD v [], true) ((kindAt k).1 :: (kindAt k).2.1)) 20 (x37.1, 1)) = some ((v : Int) + 1) := by
  rcases k13 h1 h2 with rfl | rfl | rfl | rfl | rfl | rfl | rfl | rfl | rfl | rfl | rfl | rfl | rfl <;> decide +kernel
theorem names_diff : ∀ i j : Fin 13, (kindsL.getD i.val default).1 = (kindsL.getD j.val default).1 → i = j := by decide +kernel
theorem name_inj {j k : Int} (h1 : 1 ≤ j) (h2 : j ≤ 13) (h3 : 1 ≤ k) (h4 : k ≤ 13) (h : (kindAt j).1 = (kindAt k).1) : j = k := by
  have := names_diff ⟨(j - 1).toNat, by omega⟩ ⟨(k - 1).toNat, by omega⟩ h
  have := Fin.mk.inj this
  omega
theorem fp22_nil (w : Str) : fp22 [] w = some (-1) := rfl
theorem fp7_step {p : Int × Int} (h : validP p = true) {out : List (Int × Int)} (hl : out.length ≤ 1000000) : fp7_b0 out (item p) = some (.inl (out ++ [p])) := by
  obtain ⟨h1, h2, h3, h4⟩ := valid_k h
  obtain ⟨g1, g2, g3, g4⟩ := kind_facts h1 h2
  have hvv := valid_v h
  unfold fp7_b0
  rw [cut_item h, fp15_eq]
  simp only [Option.bind_some]
  have c1 : Nat.beq (List.length kindsL) 13 = true := rfl
  have c2 : slOk 0 13 13 = true := rfl
  rw [c1, c2, cond_true, cond_true, fp20_name h1 h2, Option.bind_some]
  have c3 : decide (p.1 - 1 < 0) = false := decide_eq_false (by omega)
  rw [c3, cond_false, aig_kinds' h1 h2, Option.bind_some]
  have b3 : ∀ z : Int, apOk 16 (List.length out + List.length [(p.1, z)]) = true := fun z => apOk_t (by simp; omega)
  have c4 : w64 (p.1 - 1 + 1) = p.1 := by rw [w64_id (by unfold R64; omega)]; omega
  by_cases hp : 0 < (kindAt p.1).2.1.length
  · obtain ⟨a, b, c⟩ := g2 hp
    have hw : wordP p = (kindAt p.1).2.1.getD (p.2 - 1).toNat [] := if_pos hp
    rw [hw, fp22_words h1 h2 _ (by omega), Option.bind_some]
    have c5 : decide ((List.length (kindAt p.1).2.1 : Int) = 0) = false := decide_eq_false (by omega)
    have c6 : w64 ((((p.2 - 1).toNat : Nat) : Int) + 1) = p.2 := by rw [w64_id (by unfold R64; omega)]; omega
    rw [c5, cond_false]
    simp only [Option.bind_some, b3, cond_true, c4, c6]
  · have e : (kindAt p.1).2.1 = [] := List.eq_nil_of_length_eq_zero (by omega)
    have hw : wordP p = Lib.itoa p.2 := if_neg hp
    have c5 : decide ((List.length ([] : List Str) : Int) = 0) = true := rfl
    rw [hw, e, fp22_nil, Option.bind_some, c5, cond_true, fAtoi_itoa hvv.1 hvv.2]
    simp only [Option.bind_some, b3, cond_true, c4]
theorem fp7_fold {l : List (Int × Int)} : ∀ {out : List (Int × Int)}, (∀ p ∈ l, validP p = true) → out.length + l.length ≤ 1000000 → foldX fp7_b0 out (l.map item) = some (.inl (out ++ l)) := by
  induction l with
  | nil => intro out _ _; simp [foldX]
  | cons p l ih =>
    intro out hv hl
    simp only [List.length_cons] at hl
    rw [List.map_cons]
    unfold foldX
    rw [fp7_step (hv p (by simp)) (by omega), Option.bind_some]
    simp only
    rw [ih (fun q hq => hv q (by simp [hq])) (by simp; omega)]
    simp
/-! every text gives something -/
theorem find_tot {α : Type} [Inhabited α] {xs : List α} {g : Int → Unit → Option (Unit ⊕ Int)} (hg : ∀ i : Nat, i < xs.length → Tot (g i ()) fun o => o = .inl () ∨ o = .inr (i : Int)) :
    Tot ((rng g xs.length 0 ()).bind fun o => match o with | .inl () => some (-1) | .inr s3 => some s3) fun z => z = -1 ∨ 0 ≤ z ∧ z < xs.length := by
  refine Tot.bind (Q := fun o => (∃ s' : Unit, o = .inl s' ∧ True) ∨ ∃ z : Int, o = .inr z ∧ (0 ≤ z ∧ z < xs.length)) (tot_rngx (S := Unit) (R := Int) (g := g) (Inv := fun _ _ => True) (Ex := fun z => 0 ≤ z ∧ z < xs.length) trivial ?_) ?_
  · intro i u hi _
    refine Tot.mono (hg i hi) ?_
    rintro o (rfl | rfl)
    · exact .inl ⟨_, rfl, trivial⟩
    · exact .inr ⟨_, rfl, by omega⟩
  · rintro o (⟨_, rfl, _⟩ | ⟨z, rfl, h⟩)
    · exact tot_some (.inl rfl)
    · exact tot_some (.inr h)
theorem fp20_tot {xs : List (Str × List Str × Int)} {nm : Str} : Tot (fp20 xs (fun y1 => fp21 y1 nm)) fun z => z = -1 ∨ 0 ≤ z ∧ z < xs.length := by
  unfold fp20
  rw [toNat_len]
  refine find_tot fun i hi => ?_
  unfold fp20_b0 fp21
  refine tot_ix hi ?_
  simp only [Option.bind_some]
  exact tot_if (fun _ => tot_some (.inr rfl)) (fun _ => tot_some (.inl rfl))
theorem fp22_tot {xs : List Str} {w : Str} : Tot (fp22 xs w) fun z => z = -1 ∨ 0 ≤ z ∧ z < xs.length := by
  unfold fp22
  rw [toNat_len]
  refine find_tot fun i hi => ?_
  unfold fp22_b0
  refine tot_ix hi ?_
  exact tot_if (fun _ => tot_some (.inr rfl)) (fun _ => tot_some (.inl rfl))
theorem fCut_tot {y : Str} {sep : Str} (h : y.length ≤ 1000000) : fCut y sep = some (Lib.cut y sep) := by
  unfold fCut
  have : Nat.blt y.length 4294967281 = true := by rw [Nat.blt_eq]; omega
  rw [this]; rfl
theorem cut_len {y sep : Str} : (Lib.cut y sep).2.1.length ≤ y.length := by
  unfold Lib.cut
  split
  · simp
  · simp
theorem fAtoi_tot {y : Str} (h : y.length ≤ 1000000) : Tot (fAtoi y) fun _ => True := by
  unfold fAtoi
  have : Nat.ble y.length 281474976710656 = true := by rw [Nat.ble_eq]; omega
  rw [this]; exact tot_some trivial
theorem fp7_b0_tot {out : List (Int × Int)} {y : Str} (hl : out.length ≤ 1000000) (hy : y.length ≤ 1000000) : Tot (fp7_b0 out y) fun o => match o with
    | .inl s => s.length ≤ out.length + 1
    | .inr _ => True := by
  unfold fp7_b0
  rw [fCut_tot hy, fp15_eq]
  simp only [Option.bind_some]
  have c1 : Nat.beq (List.length kindsL) 13 = true := rfl
  have c2 : slOk 0 13 13 = true := rfl
  rw [c1, c2, cond_true, cond_true]
  refine Tot.bind fp20_tot fun z hz => ?_
  refine tot_if (fun _ => tot_some trivial) (fun hc => ?_)
  have hz0 : 0 ≤ z ∧ z < 13 := by
    rcases hz with rfl | hz
    · simp at hc
    · have : (kindsL.take (Int.toNat 13)).length = 13 := rfl
      omega
  have := aig_kinds' (k := z + 1) (by omega) (by omega)
  rw [show z + 1 - 1 = z by omega] at this
  rw [this, Option.bind_some]
  refine Tot.bind fp22_tot fun z2 _ => ?_
  have b3 : ∀ v : Int, apOk 16 (List.length out + List.length [((w64 (z + 1)), v)]) = true := fun v => apOk_t (by simp; omega)
  refine Tot.bind (Q := fun o => ∃ v, o = .inl v) ?_ ?_
  · refine tot_if (fun _ => ?_) (fun _ => tot_some ⟨_, rfl⟩)
    refine Tot.bind (fAtoi_tot (Nat.le_trans cut_len hy)) fun v _ => tot_some ⟨_, rfl⟩
  · rintro _ ⟨v, rfl⟩
    simp only [b3, cond_true]
    exact tot_some (by simp)
theorem foldX_tot {xs : List Str} : ∀ {out : List (Int × Int)}, out.length + xs.length ≤ 1000000 → (∀ y ∈ xs, y.length ≤ 1000000) → Tot (foldX fp7_b0 out xs) fun o => match o with
    | .inl s => s.length ≤ out.length + xs.length
    | .inr _ => True := by
  induction xs with
  | nil => intro out _ _; exact tot_some (by simp)
  | cons y xs ih =>
    intro out hl hy
    simp only [List.length_cons] at hl
    unfold foldX
    refine Tot.bind (fp7_b0_tot (by omega) (hy y (by simp))) ?_
    rintro (s | r) h
    · simp only at h ⊢
      refine Tot.mono (ih (by omega) (fun z hz => hy z (by simp [hz]))) ?_
      rintro (s' | r) h'
      · simp only [List.length_cons] at h' ⊢; omega
      · trivial
    · exact tot_some trivial
theorem splitK_len {sep : Str} : ∀ (k : Nat) (t : Str), (Lib.splitK sep 0 k t).length ≤ k + 1 ∧ ∀ y ∈ Lib.splitK sep 0 k t, y.length ≤ t.length := by
  intro k
  induction k with
  | zero => intro t; simp [Lib.splitK]
  | succ k ih =>
    intro t
    unfold Lib.splitK
    split
    · simp
    · obtain ⟨h1, h2⟩ := ih (t.drop ((Lib.index t sep).toNat + sep.length))
      refine ⟨by simpa using h1, fun y hy => ?_⟩
      rcases List.mem_cons.1 hy with rfl | hy
      · simp; omega
      · have := h2 y hy; rw [List.length_drop] at this; omega
theorem split_len {t sep : Str} : (Lib.split t sep).length ≤ t.length + 2 ∧ ∀ y ∈ Lib.split t sep, y.length ≤ t.length := by
  obtain ⟨h1, h2⟩ := splitK_len (sep := sep) (Lib.count t sep) t
  have := Lib.count_le t sep
  exact ⟨by show (Lib.splitK sep 0 _ t).length ≤ _; omega, h2⟩
end Go.Ab


set_option linter.unusedVariables false
set_option maxRecDepth 100000
namespace Go.Ab
open Go
theorem fSplit_eq {t : Str} (h : t.length ≤ 1000000) : fSplit t ([44, 32] : Str) = some (Lib.split t [44, 32]) := by
  unfold fSplit
  have : (Nat.blt t.length 4294967281 && Nat.ble 1 ([44, 32] : Str).length) = true := by rw [Bool.and_eq_true, Nat.blt_eq, Nat.ble_eq]; simp; omega
  rw [this, cond_true, Lib.splitB_data]
  rfl
/-! the reference's Parse -/
theorem fp8_b2_tot {x : Str × Str × Bool} {w : List Str} : ∀ (f : Nat) (n : Int) (i : Nat), i ≤ w.length → w.length < i + f → w.length ≤ 10 → Tot (lrun (fp8_b2 x w) f (n, (i : Int))) fun _ => True := by
  intro f
  induction f with
  | zero =>
    intro n i h1 h2 h3
    exact absurd h2 (by omega)
  | succ f ih =>
    intro n i h1 h2 h3
    unfold lrun fp8_b2
    simp only
    by_cases hc : (i : Int) < w.length
    · rw [decide_eq_true hc, cond_true, ix_getD (by omega)]
      simp only [Option.bind_some]
      have e : w64 ((i : Int) + 1) = ((i + 1 : Nat) : Int) := by rw [w64_id (by unfold R64; omega)]; omega
      by_cases hd : w.getD i default = x.2.1
      · rw [decide_eq_true hd]; simp only [cond_true, Option.bind_some, e]; exact ih _ _ (by omega) (by omega) h3
      · rw [decide_eq_false hd]; simp only [cond_false, Option.bind_some, e]; exact ih _ _ (by omega) (by omega) h3
    · rw [decide_eq_false hc, cond_false]; exact tot_some trivial
theorem words_len {k : Int} (h1 : 1 ≤ k) (h2 : k ≤ 13) : ((kindAt k).1 :: (kindAt k).2.1).length ≤ 5 := by
  rcases k13 h1 h2 with rfl | rfl | rfl | rfl | rfl | rfl | rfl | rfl | rfl | rfl | rfl | rfl | rfl <;> decide
theorem w64_succ {m : Nat} (h : m ≤ 14) : w64 ((m : Int) + 1) = ((m + 1 : Nat) : Int) := by rw [w64_id (by unfold R64; omega)]; omega
/-- One kind of another name. -/
theorem fp8_b1_skip {x : Str × Str × Bool} {m : Nat} {acc : List (Int × Int)} (h1 : 1 ≤ m) (h2 : m ≤ 13) (hn : (kindAt m).1 ≠ x.1) : fp8_b1 x ((m : Int), acc) = some (.inl (((m + 1 : Nat) : Int), acc)) := by
  unfold fp8_b1
  simp only
  have c1 : decide ((m : Int) ≤ 13) = true := decide_eq_true (by omega)
  have hx : ix ((kindAt m).1 :: (kindAt m).2.1) 0 = some (kindAt m).1 := rfl
  rw [c1, cond_true, fp25_len (by omega) (by omega)]
  simp only [Option.bind_some, hx, decide_eq_false hn, Bool.not_false, cond_true, w64_succ (show m ≤ 14 by omega)]
theorem fp8_b1_end {x : Str × Str × Bool} {acc : List (Int × Int)} : fp8_b1 x (((14 : Nat) : Int), acc) = some (.inr acc) := rfl
theorem fp8_b1_tot {x : Str × Str × Bool} {m : Nat} {acc : List (Int × Int)} (h1 : 1 ≤ m) (h2 : m ≤ 13) (hx : x.2.1.length ≤ 1000000) (ha : acc.length ≤ 100000000) : Tot (fp8_b1 x ((m : Int), acc)) fun o => ∃ acc', o = .inl (((m + 1 : Nat) : Int), acc') ∧ acc'.length ≤ acc.length + 1 := by
  by_cases hn : (kindAt m).1 = x.1
  · unfold fp8_b1
    simp only
    have c1 : decide ((m : Int) ≤ 13) = true := decide_eq_true (by omega)
    have hx0 : ix ((kindAt m).1 :: (kindAt m).2.1) 0 = some (kindAt m).1 := rfl
    rw [c1, cond_true, fp25_len (by omega) (by omega)]
    simp only [Option.bind_some, hx0, decide_eq_true hn, Bool.not_true, cond_false]
    refine Tot.bind (Q := fun o => ∃ acc', o = .inl acc' ∧ acc'.length ≤ acc.length + 1) ?_ ?_
    · refine Tot.bind (fAtoi_tot hx) fun v _ => ?_
      have hw := words_len (k := m) (by omega) (by omega)
      refine Tot.bind (fp8_b2_tot 20 v.1 1 (by simp) (by omega) (by omega)) fun n _ => ?_
      have b3 : apOk 16 (List.length acc + List.length [((m : Int), n)]) = true := apOk_t (by simp; omega)
      simp only [b3, cond_true]
      exact tot_some ⟨_, rfl, by simp⟩
    · rintro _ ⟨acc', rfl, h⟩
      simp only [w64_succ (show m ≤ 14 by omega)]
      exact tot_some ⟨_, rfl, h⟩
  · rw [fp8_b1_skip h1 h2 hn]; exact tot_some ⟨_, rfl, by omega⟩
theorem fp8_kinds_tot {x : Str × Str × Bool} (hx : x.2.1.length ≤ 1000000) : ∀ (f m : Nat) (acc : List (Int × Int)), 1 ≤ m → m ≤ 14 → 14 < m + f → acc.length + 14 ≤ 90000000 + m → Tot (lrun (fp8_b1 x) f ((m : Int), acc)) fun r => r.length + m ≤ acc.length + 14 := by
  intro f
  induction f with
  | zero => intro m acc h1 h2 h3; omega
  | succ f ih =>
    intro m acc h1 h2 h3 h4
    unfold lrun
    by_cases e : m = 14
    · subst e; rw [fp8_b1_end]; exact tot_some (by omega)
    · refine Tot.bind (fp8_b1_tot h1 (by omega) hx (by omega)) ?_
      rintro _ ⟨acc', rfl, h⟩
      exact Tot.mono (ih (m + 1) acc' (by omega) (by omega) (by omega) (by omega)) fun r hr => by omega
theorem fp8_past {p : Int × Int} (h : validP p = true) {w : Str} : ∀ (f m : Nat) (acc : List (Int × Int)), p.1 < m → m ≤ 14 → 14 < m + f → lrun (fp8_b1 ((kindAt p.1).1, w, true)) f ((m : Int), acc) = some acc := by
  obtain ⟨h1, h2, _, _⟩ := valid_k h
  intro f
  induction f with
  | zero => intro m acc a b c; omega
  | succ f ih =>
    intro m acc a b c
    unfold lrun
    by_cases e : m = 14
    · subst e; rw [fp8_b1_end]; rfl
    · rw [fp8_b1_skip (by omega) (by omega) (fun he => by have := name_inj (by omega) (by omega) h1 h2 he; omega), Option.bind_some]
      exact ih (m + 1) acc (by omega) (by omega) (by omega)
theorem fp8_hit {p : Int × Int} (h : validP p = true) {m : Nat} (hm : p.1 = m) {acc : List (Int × Int)} (ha : acc.length ≤ 100000000) : fp8_b1 ((kindAt p.1).1, wordP p, true) ((m : Int), acc) = some (.inl (((m + 1 : Nat) : Int), acc ++ [p])) := by
  obtain ⟨h1, h2, h3, h4⟩ := valid_k h
  obtain ⟨g1, g2, g3, g4⟩ := kind_facts h1 h2
  have hvv := valid_v h
  unfold fp8_b1
  simp only
  have c1 : decide ((m : Int) ≤ 13) = true := decide_eq_true (by omega)
  have hx0 : ix ((kindAt p.1).1 :: (kindAt p.1).2.1) 0 = some (kindAt p.1).1 := rfl
  rw [c1, cond_true, ← hm, fp25_len h1 h2]
  simp only [Option.bind_some, hx0, decide_true, Bool.not_true, cond_false]
  have b3 : ∀ z : Int, apOk 16 (List.length acc + List.length [(p.1, z)]) = true := fun z => apOk_t (by simp; omega)
  have hw : w64 (p.1 + 1) = ((m + 1 : Nat) : Int) := by rw [hm]; exact w64_succ (by omega)
  have key : ∃ a, fAtoi (wordP p) = some a ∧ lrun (fp8_b2 ((kindAt p.1).1, wordP p, true) ((kindAt p.1).1 :: (kindAt p.1).2.1)) 20 (a.1, 1) = some p.2 := by
    by_cases hp : 0 < (kindAt p.1).2.1.length
    · obtain ⟨a, b, c⟩ := g2 hp
      have e : wordP p = (kindAt p.1).2.1.getD (p.2 - 1).toNat [] := if_pos hp
      have := fp8_words h1 h2 (p.2 - 1).toNat (by omega)
      rw [← e] at this
      obtain ⟨r, q1, q2⟩ := Option.bind_eq_some_iff.1 this
      exact ⟨r, q1, by rw [q2]; congr 1; omega⟩
    · have e : wordP p = Lib.itoa p.2 := if_neg hp
      have e2 : (kindAt p.1).2.1 = [] := List.eq_nil_of_length_eq_zero (by omega)
      rw [e, e2]
      exact ⟨_, fAtoi_itoa hvv.1 hvv.2, rfl⟩
  obtain ⟨a, k1, k2⟩ := key
  simp only [k1, k2, Option.bind_some, b3, cond_true, hw]
theorem fp8_item {p : Int × Int} (h : validP p = true) : ∀ (f m : Nat) (acc : List (Int × Int)), 1 ≤ m → (m : Int) ≤ p.1 → 14 < m + f → acc.length ≤ 100000000 → lrun (fp8_b1 ((kindAt p.1).1, wordP p, true)) f ((m : Int), acc) = some (acc ++ [p]) := by
  obtain ⟨h1, h2, _, _⟩ := valid_k h
  intro f
  induction f with
  | zero => intro m acc a b c; omega
  | succ f ih =>
    intro m acc a b c ha
    unfold lrun
    by_cases e : p.1 = m
    · rw [fp8_hit h e ha, Option.bind_some]
      exact fp8_past h f (m + 1) _ (by omega) (by omega) (by omega)
    · rw [fp8_b1_skip (by omega) (by omega) (fun he => by have := name_inj (by omega) (by omega) h1 h2 he; omega), Option.bind_some]
      exact ih (m + 1) acc (by omega) (by omega) (by omega) ha
theorem fp8_rng_tot {xs : List Str} (hl : xs.length ≤ 100000) (hy : ∀ y ∈ xs, y.length ≤ 1000000) : Tot (rng (fp8_b0 xs) xs.length 0 []) fun o => ∃ s, o = .inl s ∧ s.length ≤ 14 * xs.length := by
  refine tot_rng (Inv := fun i (acc : List (Int × Int)) => acc.length ≤ 14 * i) (by simp) ?_
  intro i acc hi ha
  unfold fp8_b0
  refine tot_ix hi ?_
  have h1 := hy _ (getD_mem (d := default) hi)
  rw [fCut_tot h1, Option.bind_some]
  refine Tot.bind (fp8_kinds_tot (Nat.le_trans cut_len h1) 20 1 acc (by omega) (by omega) (by omega) (by omega)) fun r hr => ?_
  exact tot_some ⟨r, rfl, by omega⟩
theorem fp8_rng {s : List (Int × Int)} (hl : s.length ≤ 1000000) (hv : ∀ p ∈ s, validP p = true) : rng (fp8_b0 (s.map item)) (s.map item).length 0 [] = some (.inl s) := by
  refine Tot.eq (Tot.mono (tot_rng (Inv := fun i acc => acc = s.take i) (by simp) ?_) ?_)
  · rintro i acc hi rfl
    rw [List.length_map] at hi
    have hp := hv _ (getD_mem (d := default) hi)
    unfold fp8_b0
    refine tot_ix (by rw [List.length_map]; exact hi) ?_
    have e : (s.map item).getD i default = item (s.getD i default) := by
      rw [List.getD_eq_getElem?_getD, List.getElem?_map, List.getElem?_eq_getElem hi, List.getD_eq_getElem?_getD, List.getElem?_eq_getElem hi]; rfl
    obtain ⟨h1, h2, _, _⟩ := valid_k hp
    rw [e, cut_item hp, Option.bind_some]
    have := fp8_item hp 20 1 (s.take i) (by omega) (by omega) (by omega) (by simp; omega)
    rw [show ((1 : Nat) : Int) = 1 from rfl] at this
    rw [this]
    exact tot_some ⟨_, rfl, by rw [take_snoc default hi]⟩
  · rintro o ⟨acc, rfl, h⟩
    rw [h, List.length_map, List.take_length]
/-! both Parses -/
structure PG (t : Str) (r : List (Int × Int) × Int) : Prop where
  form : (∃ s, r = (s, 0) ∧ s.length ≤ 1000000 ∧ fp14 s = some true ∧ fmtS s = t) ∨ r = ([], 2)
  comp : ∀ s : List (Int × Int), s.length ≤ 1000000 → fp14 s = some true → fmtS s = t → r = (s, 0)
theorem PG.uniq {t : Str} {r r' : List (Int × Int) × Int} (h : PG t r) (k : PG t r') : r = r' := by
  rcases h.form with ⟨s, rfl, h1, h2, h3⟩ | rfl
  · exact (k.comp s h1 h2 h3).symm
  · rcases k.form with ⟨s, rfl, h1, h2, h3⟩ | rfl
    · exact h.comp s h1 h2 h3
    · rfl
theorem vs_all {s : List (Int × Int)} (hl : s.length ≤ 1000000) (h : fp14 s = some true) : ∀ p ∈ s, validP p = true := by
  obtain ⟨b, h1, h2⟩ := fp14_tot s (by omega)
  rw [h] at h1; cases h1
  exact h2 rfl
theorem fmt_split {s : List (Int × Int)} (hs : s ≠ []) (hv : ∀ p ∈ s, validP p = true) : Lib.split (fmtS s) [44, 32] = s.map item :=
  split_join (by simpa using hs) (fun x hx => by obtain ⟨p, hp, rfl⟩ := List.mem_map.1 hx; exact item_no (hv p hp))
theorem fp18_eq (a b : Str) : fp18 a b = some () := rfl
theorem fp7_pg {t : Str} (ht : t ≠ []) (hl : t.length ≤ 65536) : Tot (fp7 t) (PG t) := by
  unfold fp7
  have c1 : decide ((65536 : Int) < (List.length t : Int)) = false := decide_eq_false (by omega)
  rw [c1, cond_false, decide_eq_false ht, cond_false, fp18_eq, Option.bind_some, fp61_fold _ _ _ (by omega)]
  have hsl := split_len (t := t) (sep := [44, 32])
  obtain ⟨o, ho, hq⟩ := foldX_tot (xs := Lib.split t [44, 32]) (out := []) (by simp; omega) (fun y hy => by have := hsl.2 y hy; omega)
  have hcomp : ∀ s : List (Int × Int), s.length ≤ 1000000 → fp14 s = some true → fmtS s = t → o = .inl s := by
    intro s h1 h2 h3
    have hv := vs_all h1 h2
    have hs : s ≠ [] := by rintro rfl; exact ht h3.symm
    have h4 := fmt_split hs hv
    rw [h3] at h4
    have h5 := fp7_fold (l := s) (out := []) hv (by simpa using h1)
    rw [← h4, ho] at h5
    simpa using Option.some.inj h5
  rw [ho, Option.bind_some]
  cases o with
  | inr r =>
    refine tot_some ⟨.inr rfl, fun s h1 h2 h3 => ?_⟩
    have := hcomp s h1 h2 h3; cases this
  | inl s6 =>
    simp only [List.length_nil, Nat.zero_add] at hq ⊢
    obtain ⟨b, hb, hbv⟩ := fp14_tot s6 (by omega)
    rw [hb, Option.bind_some]
    have h6 := fp6_t (s := s6) (by omega) hb hbv
    cases b with
    | false =>
      simp only [Bool.not_false, Bool.not_true, Bool.true_or, cond_true]
      refine tot_some ⟨.inr rfl, fun s h1 h2 h3 => ?_⟩
      have := hcomp s h1 h2 h3; cases this
      rw [hb] at h2; cases h2
    | true =>
      rw [h6]
      simp only [Option.isSome_some, Bool.or_true, cond_true, Option.getD_some, if_true, Bool.not_true, Bool.false_or]
      by_cases hf : fmtS s6 = t
      · rw [decide_eq_true hf]
        refine tot_some ⟨.inl ⟨s6, rfl, by omega, hb, hf⟩, fun s h1 h2 h3 => ?_⟩
        have := hcomp s h1 h2 h3; cases this; rfl
      · rw [decide_eq_false hf]
        refine tot_some ⟨.inr rfl, fun s h1 h2 h3 => ?_⟩
        have := hcomp s h1 h2 h3; cases this
        exact absurd h3 hf
theorem fp8_pg {t : Str} (ht : t ≠ []) (hl : t.length ≤ 65536) : Tot (fp8 t) (PG t) := by
  unfold fp8
  have c1 : decide ((65536 : Int) < (List.length t : Int)) = false := decide_eq_false (by omega)
  rw [c1, cond_false, decide_eq_false ht, cond_false, fSplit_eq (by omega), Option.bind_some, toNat_len]
  have hsl := split_len (t := t) (sep := [44, 32])
  obtain ⟨o, ho, s7, rfl, hq⟩ := fp8_rng_tot (xs := Lib.split t [44, 32]) (by omega) (fun y hy => by have := hsl.2 y hy; omega)
  have hcomp : ∀ s : List (Int × Int), s.length ≤ 1000000 → fp14 s = some true → fmtS s = t → s7 = s := by
    intro s h1 h2 h3
    have hv := vs_all h1 h2
    have hs : s ≠ [] := by rintro rfl; exact ht h3.symm
    have h4 := fmt_split hs hv
    rw [h3] at h4
    have h5 := fp8_rng h1 hv
    rw [← h4, ho] at h5
    simpa using Option.some.inj h5
  rw [ho, Option.bind_some]
  simp only
  obtain ⟨b, hb, hbv⟩ := fp14_tot s7 (by omega)
  rw [fp9_t (by omega) hb hbv, Option.bind_some]
  cases b with
  | false =>
    have : decide ((if false = true then fmtS s7 else []) = t) = false := decide_eq_false (by simpa using Ne.symm ht)
    rw [this]
    refine tot_some ⟨.inr rfl, fun s h1 h2 h3 => ?_⟩
    have := hcomp s h1 h2 h3; subst this
    rw [hb] at h2; cases h2
  | true =>
    simp only [if_true]
    by_cases hf : fmtS s7 = t
    · rw [decide_eq_true hf]
      refine tot_some ⟨.inl ⟨s7, rfl, by omega, hb, hf⟩, fun s h1 h2 h3 => ?_⟩
      have := hcomp s h1 h2 h3; subst this; rfl
    · rw [decide_eq_false hf]
      refine tot_some ⟨.inr rfl, fun s h1 h2 h3 => ?_⟩
      have := hcomp s h1 h2 h3; subst this
      exact absurd h3 hf
theorem fp78 {t : Str} (hl : t.length ≤ 65536) : ∃ r, fp7 t = some r ∧ fp8 t = some r ∧ (t ≠ [] → PG t r) := by
  by_cases ht : t = []
  · subst ht; exact ⟨([], 0), rfl, rfl, fun h => absurd rfl h⟩
  · obtain ⟨r, h1, h2⟩ := fp7_pg ht hl
    obtain ⟨r', h3, h4⟩ := fp8_pg ht hl
    obtain rfl := h2.uniq h4
    exact ⟨r, h1, h3, fun _ => h2⟩
theorem fp10_self (a : List (Int × Int)) : fp10 a a = some true := by
  unfold fp10
  simp only [decide_true, Bool.not_true, cond_false, toNat_len]
  refine Tot.eq (Tot.bind (tot_rng (Inv := fun _ _ => True) trivial ?_) ?_)
  · intro i u hi _
    unfold fp10_b0
    refine tot_ix hi (tot_ix hi ?_)
    simp only [decide_true, Bool.and_true, Bool.not_true, cond_false]
    exact tot_some ⟨_, rfl, trivial⟩
  · rintro _ ⟨_, rfl, _⟩
    exact tot_some rfl
theorem fp4_eq (p : List (Int × Int)) : fp4 [p] = some (!decide (200 < (p.length : Int))) := by
  unfold fp4
  have : Int.toNat (List.length [p] : Int) = 1 := rfl
  rw [this]
  unfold rng fp4_b0
  have hx : ix [p] 0 = some p := rfl
  rw [hx]
  simp only [Option.bind_some]
  cases decide (200 < (p.length : Int)) <;> rfl
/-- PolicyTexts. -/
theorem fp3_t (p0 : List (Int × Int)) (p1 : Str) : fp3 p0 p1 = some true := by
  unfold fp3
  rw [fp4_eq, Option.bind_some]
  by_cases h1 : (200 : Int) < (p0.length : Int)
  · rw [decide_eq_true h1]; rfl
  · rw [decide_eq_false h1]
    by_cases h2 : (1000 : Int) < (p1.length : Int)
    · rw [decide_eq_true h2]; rfl
    · rw [decide_eq_false h2]
      simp only [Bool.not_false, Bool.not_true, Bool.or_self, cond_false]
      obtain ⟨b, hb, hbv⟩ := fp14_tot p0 (by omega)
      have e6 := fp6_t (by omega) hb hbv
      have e9 := fp9_t (by omega) hb hbv
      obtain ⟨r, e7, e8, _⟩ := fp78 (t := p1) (by omega)
      rw [e6, e7, e8, e9]
      simp only [Option.bind_some, fp10_self, decide_true, Bool.not_true, Option.isSome_some, Bool.or_true, cond_true, Option.getD_some, Bool.or_self, cond_false]
      rw [fp11_14, hb]
      simp only [Option.bind_some]
      cases b with
      | false => rfl
      | true =>
        simp only [Bool.not_true, cond_false, if_true]
        have hv := hbv rfl
        have hlen : (fmtS p0).length ≤ 65536 := by
          have : (fmtS p0).length ≤ (p0.map item).length * (31 + 2) := join_len (fun x hx => by obtain ⟨p, hp, rfl⟩ := List.mem_map.1 hx; exact item_len (hv p hp))
          rw [List.length_map] at this
          omega
        obtain ⟨r, e7, _, hpg⟩ := fp78 hlen
        have hr : r = (p0, 0) := by
          by_cases h0 : fmtS p0 = []
          · have : p0 = [] := by
              cases p0 with
              | nil => rfl
              | cons p l =>
                exfalso
                unfold fmtS at h0
                rw [List.map_cons, Lib.join_cons] at h0
                unfold item at h0
                simp at h0
            subst this
            rw [h0] at e7
            exact (Option.some.inj e7).symm
          · exact (hpg h0).comp p0 (by omega) hb rfl
        subst hr
        rw [e7]
        simp only [Option.bind_some, fp10_self]
        rfl
end Go.Ab

