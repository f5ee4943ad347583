/- Lemmas for a law of the seat: what functions of the program do, each stated as a contract of its own (LayZs). -/
import Derived.Test.YtigjjobjdajkfabGreatDoorLayZ
import Derived.Test.YtigjjobjdajkfabGreatDoorP29zs
import Derived.Test.YtigjjobjdajkfabGreatDoorAbW
import Derived.Shelf.SlSortCmp.NoneTotal

set_option linter.unusedVariables false
namespace Go.Ab
open Go.RowKit Go.Shelf Go.Proofs Go.Eng

/-! layer 29: slices.SortFunc at calls -/
abbrev YC : Ty := .st (.pair (.int .i64) (.pair (.int .i64) (.int .i64)))
def encC (x : Int × Int × Int) : List Value := [.int .i64 x.1, .int .i64 x.2.1, .int .i64 x.2.2]
theorem encC_ok : EncK YC encC := by
  refine ⟨fun x => rfl, fun m x => ?_, fun m x vs h => ?_⟩
  · exact ⟨[.int .i64 x.1], [.int .i64 x.2.1, .int .i64 x.2.2], rfl, rfl, [.int .i64 x.2.1], [.int .i64 x.2.2], rfl, rfl, rfl⟩
  · obtain ⟨c, d, rfl, rfl, c', d', rfl, rfl, rfl⟩ := h
    rfl
theorem closure92 (x y : Int × Int × Int) (W : World) : Calls Tryz.prog 52 #[.agg (encC x).toArray, .agg (encC y).toArray] W fun e w' => e = .returned (.int .i64 (IntKind.i64.wrap (x.1 - y.1))) ∧ ∃ q os', w' = Sort.grow (W.drewN q) os' := by
  unfold encC
  go_enter Tryz.func52, Tryz.ntmps52
  go_wp2
  all_goals (go_ret; exact ⟨by simp_all; exact (IntWalk.i64_left _).symm, 0, _, by rw [Sort.alloc_eq_grow, Sort.alloc_eq_grow, Sort.grow_grow]; rfl⟩)
abbrev CallR := { x : Int × Int × Int // 0 ≤ x.1 ∧ x.1 ≤ 9223372036854775807 }
instance : Inhabited CallR := ⟨⟨(0, 0, 0), by decide⟩⟩
def cfC (x y : CallR) : Int := IntKind.i64.wrap (x.1.1 - y.1.1)
theorem ltC (x y : CallR) : ltOf cfC x y = decide (x.1.1 < y.1.1) := by
  obtain ⟨x, hx⟩ := x
  obtain ⟨y, hy⟩ := y
  unfold ltOf cfC
  have : IntKind.i64.wrap (x.1 - y.1) = x.1 - y.1 := wrap_i64 (by omega)
  simp only [this]
  exact decide_eq_decide.2 (by omega)
theorem swoC : Sort.SWO (ltOf cfC) where
  irrefl x := by rw [ltC]; simp
  trans x y z h1 h2 := by rw [ltC] at *; simp at *; omega
  ntrans x y z h1 h2 := by rw [ltC] at *; simp at *; omega
theorem lift_calls : ∀ {l : List (Int × Int × Int)}, (∀ x ∈ l, 0 ≤ x.1 ∧ x.1 ≤ 9223372036854775807) → ∃ xs : List CallR, xs.map Subtype.val = l := by
  intro l
  induction l with
  | nil => intro _; exact ⟨[], rfl⟩
  | cons x l ih =>
    intro h1
    obtain ⟨xs, hxs⟩ := ih fun y hy => h1 y (List.mem_cons_of_mem _ hy)
    exact ⟨⟨x, h1 x List.mem_cons_self⟩ :: xs, by simp [hxs]⟩
theorem f91_runs {p0_0 : List (Int × Int × Int)} {r : List (Int × Int × Int)} (hr : f91 p0_0 = some r) : Runs Tryz.prog 51 [.osl 0, .fn 52 [] []] [.sl 54 YC p0_0] (fun q Hq => q = [] ∧ Hq = [.sl 54 YC r]) := by
  unfold f91 at hr
  obtain ⟨h, hr⟩ := chk_some hr
  have hr := Option.some.inj hr
  subst hr
  simp only [Bool.and_eq_true, List.all_eq_true, decide_eq_true_eq] at h
  obtain ⟨h1, h2, h3⟩ := h
  have h3' : p0_0.length < 4611686018427387904 := by simpa [Nat.blt_eq] using h3
  obtain ⟨xs, rfl⟩ := lift_calls h1
  have hmap := isortK_map (fun x : Int × Int × Int => x.1) (Subtype.val : CallR → _) xs
  rw [← hmap]
  refine runs_sortF (val := (Subtype.val : CallR → _)) encC_ok (isortK_perm _ xs).length_eq (fun b cap w hH hb => ?_) (fun w => AnyF.slices_SortFunc_none Tryz.laysSortF none 0 _ w)
  refine Calls.mono (AnyQ.slices_SortFunc Tryz.laysSortF 3 Tryz.isAgg54 Tryz.sizeOf54 (fun a : CallR => encC a.1) (fun _ => rfl) (fun x v hv => by simp [encC] at hv; rcases hv with rfl | rfl | rfl <;> rfl) cfC swoC 52 #[] b 0 cap xs.toArray w (enters_of Tryz.func52 (by kernel_rfl) rfl) (fun _ _ _ _ x y => closure92 x.1 y.1 _) hH hb (by simpa using h3')) ?_
  rintro e w' ⟨rfl, d', n, os, hp, hs, rfl⟩
  refine ⟨rfl, d', n, os, ?_, rfl⟩
  obtain ⟨p1, _, p3⟩ := hp
  have hd : d'.toList.Perm xs := by
    have e1 : d'.extract 0 xs.toArray.size = d' := by rw [← p1]; simp
    rw [e1] at p3
    simpa using p3
  have hsz : d'.size = xs.length := by rw [p1]; simp
  have key : d'.toList = isortK (fun a : CallR => a.1.1) xs := by
    refine sortedK_uniq (fun a : CallR => a.1.1) (hd.trans (isortK_perm _ xs).symm) ?_ (isortK_sorted _ xs) ?_
    · rw [List.pairwise_iff_getElem]
      intro i j hi hj hij
      have h4 := hs i j (Nat.zero_le _) hij (by simp at hj; simp; omega)
      rw [ltC] at h4
      have hi' : i < d'.size := by simpa using hi
      have hj' : j < d'.size := by simpa using hj
      rw [getElem!_pos d' i hi', getElem!_pos d' j hj'] at h4
      have h5 := of_decide_eq_false h4
      simp only [Array.getElem_toList]
      omega
    · have : (xs.map fun a => a.1.1).Nodup := by rw [List.map_map] at h2; exact h2
      exact ((hd.map fun a : CallR => a.1.1).nodup_iff).2 this
  rw [← key]
end Go.Ab

