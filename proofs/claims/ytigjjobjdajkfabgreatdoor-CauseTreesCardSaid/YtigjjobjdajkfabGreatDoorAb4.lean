/- Lemmas for a law of the seat: what functions of the program do, each stated as a contract of its own (Ab4). -/
import Derived.Test.YtigjjobjdajkfabGreatDoorAb3
import Derived.Shelf.Strings.Builder1
import Derived.Lib.AppendStr
import Derived.Lib.UnsafeStr
set_option linter.unusedVariables false
set_option linter.unusedSimpArgs false
namespace Go.Ab
open Go.RowKit Go.Shelf Go.Proofs Go.Eng

/-! strings.Builder -/
section
variable {P : Program}
/-- Bytes are appended: what the machine does, and where the row lies. -/
theorem run_append_str {w : World} {t u ty E n : Nat} {i : TypeInfo} (ht : P.underlying t = some (.slice E)) (hu : P.underlying u = some .string) (hi : P.info? E = some i) (hz : i.zero = some (.int .u8 0)) (hsize : i.size = 1) (hby : i.bytes = 1)
    {v : Value} {vs : List Value} (hown : w.ownsRow 0 E 1 v n vs) (s : ByteArray) (hn : n + s.size ≤ cap47) :
    ∃ v' w', (Builtin.append_ #[t, u] ty #[v, .string s]).run P w = .ok v' w' ∧ w'.ownsRow 0 E 1 v' (n + s.size) (vs ++ Lib.strCells s) ∧ w.grownBy w' v.ownBlock ∧ (v'.ownBlock = v.ownBlock ∨ v'.ownBlock = some w.heap.size) := by
  have h47 : cap47 = 140737488355328 := rfl
  obtain ⟨v', w', hr, h1, h2, h3⟩ := Lib.run_append_own_string (P := P) w 0 t u ty E i ht hu hi hz hsize hby v n vs hown s (by simp only [maxLen]; omega) (by omega) (Nat.zero_le _)
  refine ⟨v', w', hr, h1, h2, ?_⟩
  rcases hown.2 with ⟨rfl, rfl⟩ | ⟨g, cap, cur, rfl, hbg, hg, hnc, hcm, hcs, htake⟩
  · by_cases hm : s.size = 0
    · left; rw [h3.2 ⟨rfl, hm⟩]
    · right
      have hr2 := run_append_nil_string (P := P) w t u ty E i (.int .u8 0) ht hu hi hz s (by omega) (by omega) (by rw [hby]; omega)
      rw [hr] at hr2
      cases hr2
      rfl
  · by_cases hroom : n + s.size ≤ cap
    · have hr2 := Lib.run_append_room_string (P := P) w t u ty E i ht hu hi hsize g n cap cur hg s hroom (by simp at hcs; omega)
      rw [hr] at hr2
      cases hr2
      exact .inl rfl
    · right
      have holds : ∀ j u, vs[j]? = some u → w.cell? ((⟨g, 0, none⟩ : Addr).add j) = some u := hown.cells (g := g) rfl
      have hr2 := Lib.run_append_grow_string (P := P) w t u ty E i (.int .u8 0) ht hu hi hz ⟨g, 0, none⟩ n cap vs (by rw [hsize]; simpa using hown.1) holds s (by omega) (by omega) (by rw [hby]; exact growslice_fits (by omega) (by omega))
      rw [hr] at hr2
      cases hr2
      rfl

theorem wpList_append_str {ops : Array Oper} {rest : List Oper} {o : Oper} {a : Act} {Q : Exit → Act → World → Prop} {w : World} (hgd : o.guard = none) (sl x : Operand) (t u : TypeId)
    (ho : o.op = .call { callee := .builtin .append, args := #[sl, x], argTypes := #[t, u] })
    (E : TypeId) (i : TypeInfo) (ht : P.underlying t = some (.slice E)) (hu : P.underlying u = some .string) (hi : P.info? E = some i) (hz : i.zero = some (.int .u8 0)) (hsize : i.size = 1) (hby : i.bytes = 1)
    (v : Value) (n : Nat) (vs : List Value) (hs : a.eval sl = v) (hown : w.ownsRow 0 E 1 v n vs) (s : ByteArray) (hx : a.eval x = .string s) (hn : n + s.size ≤ cap47)
    (h : ∀ v' w', w'.ownsRow 0 E 1 v' (n + s.size) (vs ++ Lib.strCells s) → w.grownBy w' v.ownBlock → (v'.ownBlock = v.ownBlock ∨ v'.ownBlock = some w.heap.size) → wpList P ops Q rest (a.put o.dst v') w') : wpList P ops Q (o :: rest) a w := by
  refine wpList_plain hgd fun K hK => ?_
  obtain ⟨v', w', hr, h2, h3, h4⟩ := run_append_str (ty := o.type) ht hu hi hz hsize hby hown s hn
  unfold Oper.wp execOp
  simp only [ho, resolve, invoke, builtin, Sem.run_bind, Sem.run_pure, Result.andThen_ok, List.map_toArray, List.map_cons, List.map_nil, hs, hx, hr]
  exact hK _ _ (h v' w' h2 h3 h4)
variable {ρ : Ren}
abbrev selfP (b : Nat) : Value := .pointer (some ⟨b, 0, none⟩)
theorem setCell_put {w : World} {b j : Nat} {cs : Array Value} {T : TypeId} {v : Value} (h : w.heap[b]? = some (.cells cs T (0, 0))) : Put w (w.setCell ⟨b, j, none⟩ v) b ∧ (w.setCell ⟨b, j, none⟩ v).heap[b]? = some (.cells (cs.setIfInBounds j v) T (0, 0)) := by
  refine ⟨⟨rfl, rfl, rfl, by simp [World.setCell], fun k hk => Below.heap_setCell _ _ _ _ hk⟩, ?_⟩
  simp only [World.setCell, Array.getElem?_modify, if_true, h, Option.map_some]
  rfl
theorem bld_copy (L : Lays.n240 P ρ) (X : Builder.X72 P ρ) {b : Nat} {w : World} {p buf : Value} (hp : p = .pointer none ∨ p = selfP b) (hbk : w.heap[b]? = some (.cells #[p, buf] (ρ.t 72) (0, 0))) :
    Calls P (ρ.f 240) #[selfP b] w fun e w' => e = .returned (.tuple #[]) ∧ Put w w' b ∧ w'.heap[b]? = some (.cells #[selfP b, buf] (ρ.t 72) (0, 0)) := by
  have c0 : w.cell? ⟨b, 0, none⟩ = some p := by rw [Lib.cell_of_heap hbk]; rfl
  rcases hp with rfl | rfl
  · refine (Any.Builder_copyCheck_fresh L X b w c0 (by simp [World.shape?, hbk]) (Lib.frozen_of_heap hbk 0)).mono ?_
    rintro e w' ⟨rfl, rfl⟩
    obtain ⟨h1, h2⟩ := setCell_put (j := 0) (v := selfP b) hbk
    exact ⟨rfl, h1, h2⟩
  · refine (Any.Builder_copyCheck_used L X b w c0).mono ?_
    rintro e w' ⟨rfl, rfl⟩
    exact ⟨rfl, ⟨rfl, rfl, rfl, rfl, fun _ _ => rfl⟩, hbk⟩
set_option maxHeartbeats 1000000 in
set_option maxRecDepth 100000 in
theorem bld_ws_raw (L : Lays.n166 P ρ) (X : Builder.Extra P ρ) {b : Nat} {w : World} {p buf : Value} {n : Nat} {vs : List Value} (hp : p = .pointer none ∨ p = selfP b) (hbk : w.heap[b]? = some (.cells #[p, buf] (ρ.t 72) (0, 0))) (hown : w.ownsRow 0 (ρ.t 5) 1 buf n vs) (hne : buf.ownBlock ≠ some b) (s : ByteArray) (hn : n + s.size ≤ cap47) :
    Calls P (ρ.f 166) #[selfP b, .string s] w fun e w' => e = .returned (.tuple #[.int .i64 s.size, .nilIface]) ∧ ∃ w1 w2 v', Put w w1 b ∧ w1.heap[b]? = some (.cells #[selfP b, buf] (ρ.t 72) (0, 0)) ∧ w2.ownsRow 0 (ρ.t 5) 1 v' (n + s.size) (vs ++ Lib.strCells s) ∧ w1.grownBy w2 buf.ownBlock ∧ (v'.ownBlock = buf.ownBlock ∨ v'.ownBlock = some w1.heap.size) ∧ w2.heap[b]? = some (.cells #[selfP b, buf] (ρ.t 72) (0, 0)) ∧ w' = w2.setCell ⟨b, 1, none⟩ v' := by
  obtain ⟨i0, hi, hz0, hz1, hz2⟩ := info_parts X.infoByte
  have mixed := L.mixed
  have t72 := L.t72; have a72 := L.a72; have z72 := L.z72; have v72 := L.v72; have u72 := run_underlying L.t72
  have t70 := L.t70; have a70 := L.a70; have z70 := L.z70; have v70 := L.v70; have u70 := run_underlying L.t70
  have t37 := L.t37; have a37 := L.a37; have z37 := L.z37; have v37 := L.v37; have u37 := run_underlying L.t37
  have t3 := L.t3; have a3 := L.a3; have z3 := L.z3; have v3 := L.v3; have u3 := run_underlying L.t3
  have t9 := L.t9; have a9 := L.a9; have z9 := L.z9; have v9 := L.v9; have u9 := run_underlying L.t9
  have t4 := L.t4; have a4 := L.a4; have z4 := L.z4; have v4 := L.v4; have u4 := run_underlying L.t4
  have t164 := L.t164; have a164 := L.a164; have z164 := L.z164; have v164 := L.v164; have u164 := run_underlying L.t164
  have t5 := X.t5; have a5 := X.a5; have z5 := X.z5; have v5 := X.v5; have u5 := run_underlying X.t5
  have e240 : ∀ args w, (callFunc (ρ.f 240) args).run P w = .ok (.enter (ρ.f 240) args) w := enters_of L.f240 (by kernel_rfl) rfl
  go_enter L.f166, Body.n166_ntmps ρ
  go_wp2_with (go_at_fn (ρ.f 240); refine (bld_copy { L with } X.toX72 hp hbk).mono ?_)
  rintro e w1 ⟨rfl, hP, hbk1⟩
  have hown1 : w1.ownsRow 0 (ρ.t 5) 1 buf n vs := by
    refine ⟨hown.1, ?_⟩
    rcases hown.2 with h | ⟨g, cap, cur, rfl, h1, h2, h3⟩
    · exact .inl h
    · exact .inr ⟨g, cap, cur, rfl, h1, (hP.other g (by intro e; subst e; exact hne rfl)).trans h2, h3⟩
  have c0 : w1.cell? ⟨b, 0, none⟩ = some (selfP b) := by rw [Lib.cell_of_heap hbk1]; rfl
  have c1 : w1.cell? ⟨b, 1, none⟩ = some buf := by rw [Lib.cell_of_heap hbk1]; rfl
  go_wp2_with (at_builtin; refine wpList_append_str rfl _ _ (ρ.t 37) (ρ.t 9) rfl (ρ.t 5) i0 L.t37 L.t9 hi hz0 hz1 hz2 _ _ _ rfl hown1 s rfl hn ?_)
  intro v' w2 hown' hgrow hob
  have hlt : b < w1.heap.size := (Array.getElem?_eq_some_iff.1 hbk1).1
  have hb2 : w2.heap[b]? = some (.cells #[selfP b, buf] (ρ.t 72) (0, 0)) := by
    rw [hgrow.block b hlt (fun e => hne e.symm)]
    exact hbk1
  have d0 : w2.cell? ⟨b, 0, none⟩ = some (selfP b) := by rw [Lib.cell_of_heap hb2]; rfl
  have d1 : w2.cell? ⟨b, 1, none⟩ = some buf := by rw [Lib.cell_of_heap hb2]; rfl
  have f1 : w2.frozen? ⟨b, 1, none⟩ = false := Lib.frozen_of_heap hb2 1
  obtain ⟨ao, n', cap, rfl⟩ : ∃ ao n' cap, v' = .slice ao n' cap := by
    rcases hown'.2 with ⟨hv, _⟩ | ⟨g, cap, cur, hv, _⟩
    · exact ⟨_, _, _, hv⟩
    · exact ⟨_, _, _, hv⟩
  go_wp2
  go_ret2
  exact ⟨rfl, w1, w2, _, hP, hbk1, hown', hgrow, hob, hb2, rfl⟩

theorem strCells_bstr (s : Str) : Lib.strCells (bstr s) = s.map fun x => Value.int .u8 x.toNat := by simp [Lib.strCells, bstr]
theorem bld_open {m : Mem} {ρ : List Value} {T E : TypeId} {s0 : Str} {h : Value} {f : Frag} {w : World} (ho : ORep m ρ (.bld T E s0) h f) (hw : ∀ p ∈ f, w.heap[p.1]? = some p.2) :
    s0.length ≤ cap47 ∧ ∃ b p buf fb, h = selfP b ∧ (p = .pointer none ∨ p = selfP b) ∧ f = (b, .cells #[p, buf] T (0, 0)) :: fb ∧ w.ownsRow 0 E 1 buf s0.length (Lib.strCells (bstr s0)) ∧ ((buf.ownBlock = none ∧ fb = []) ∨ ∃ b2 o, buf.ownBlock = some b2 ∧ fb = [(b2, o)]) := by
  obtain ⟨h0, b, rfl, ⟨rfl, p, hp, rfl⟩ | ⟨b2, c, cs, rfl, h1, h2, h3, h4⟩⟩ := ho
  · exact ⟨h0, b, p, .slice none 0 0, [], rfl, hp, rfl, World.ownsRow_nil w 0 E 1, .inl ⟨rfl, rfl⟩⟩
  · refine ⟨h0, b, _, _, [(b2, .cells cs E (0, 0))], rfl, .inr rfl, rfl, ⟨by rw [strCells_bstr]; simp, .inr ⟨b2, c, cs, rfl, Nat.zero_le _, hw (b2, _) (by simp), h1, h2, by simpa using h3, by rw [strCells_bstr]; simpa using h4⟩⟩, .inr ⟨b2, _, rfl, rfl⟩⟩
theorem bld_close {m : Mem} {ρ : List Value} {T E : TypeId} {s0 : Str} {b : Nat} {v' : Value} {f' : Frag} (h0 : s0.length ≤ cap47)
    (h : (v' = .slice none 0 0 ∧ s0.length = 0 ∧ f' = []) ∨ ∃ g cap cur, v' = .slice (some ⟨g, 0, none⟩) s0.length cap ∧ f' = [(g, .cells cur E (0, 0))] ∧ s0.length ≤ cap ∧ cap ≤ maxLen ∧ cur.size = cap * 1 ∧ cur.toList.take (s0.length * 1) = Lib.strCells (bstr s0)) :
    ORep m ρ (.bld T E s0) (selfP b) ((b, .cells #[selfP b, v'] T (0, 0)) :: f') := by
  refine ⟨h0, b, rfl, ?_⟩
  rcases h with ⟨rfl, h1, rfl⟩ | ⟨g, cap, cur, rfl, rfl, h1, h2, h3, h4⟩
  · exact .inl ⟨List.eq_nil_of_length_eq_zero h1, _, .inr rfl, rfl⟩
  · exact .inr ⟨g, cap, cur, rfl, h1, h2, by simpa using h3, by rw [strCells_bstr] at h4; simpa using h4⟩
/-- Behind a write. -/
theorem bld_turn {e w w1 w2 : World} {m : Mem} {ρ : List Value} {F fb : Frag} {T E b : Nat} {p buf v' : Value} {n : Nat} {s1 : Str} (hs : SH e w m ((b, .cells #[p, buf] T (0, 0)) :: fb ++ F)) (hfb : (buf.ownBlock = none ∧ fb = []) ∨ ∃ b2 o, buf.ownBlock = some b2 ∧ fb = [(b2, o)])
    (hP : Put w w1 b) (hb1 : w1.heap[b]? = some (.cells #[selfP b, buf] T (0, 0))) (hown : w2.ownsRow 0 E 1 v' n (Lib.strCells (bstr s1))) (hn : n = s1.length) (h0 : s1.length ≤ cap47) (hg : w1.grownBy w2 buf.ownBlock) (ho : v'.ownBlock = buf.ownBlock ∨ v'.ownBlock = some w1.heap.size) (hb2 : w2.heap[b]? = some (.cells #[selfP b, buf] T (0, 0))) :
    ∃ f', ORep m ρ (.bld T E s1) (selfP b) f' ∧ SH e (w2.setCell ⟨b, 1, none⟩ v') m (f' ++ F) ∧ DK none w (w2.setCell ⟨b, 1, none⟩ v') ∧ w.heap.size ≤ (w2.setCell ⟨b, 1, none⟩ v').heap.size := by
  subst hn
  have h1 : SH e w1 m (fb ++ ((b, .cells #[selfP b, buf] T (0, 0)) :: F)) := (hs.put hP hb1 rfl).perm (by simpa using List.perm_middle.symm)
  obtain ⟨f', h2, h3⟩ := h1.grown hfb hg hown ho
  obtain ⟨hP2, hb3⟩ := setCell_put (j := 1) (v := v') hb2
  have h4 : SH e w2 m ((b, .cells #[selfP b, buf] T (0, 0)) :: (f' ++ F)) := h2.perm List.perm_middle
  have h5 := h4.put hP2 hb3 rfl
  refine ⟨_, bld_close h0 h3, h5, ?_, ?_⟩
  · intro k o hk hc _
    have hkb : k ≠ b := by
      rintro rfl
      have := hs.own (k, .cells #[p, buf] T (0, 0)) (by simp)
      simp only at this
      rw [hk] at this; cases this; cases hc
    have hk1 : w1.heap[k]? = some o := (hP.other k hkb).trans hk
    have hkn : some k ≠ buf.ownBlock := by
      intro he
      rcases hfb with ⟨q, _⟩ | ⟨b2, o2, q, rfl⟩
      · rw [q] at he; cases he
      · rw [q] at he; cases he
        have h6 := h1.own (k, o2) (by simp)
        have h7 := h1.noctl (k, o2) (by simp)
        simp only at h6 h7
        rw [hk1] at h6; cases h6; rw [hc] at h7; cases h7
    exact (hP2.other k hkb).trans ((hg.block k (Array.getElem?_eq_some_iff.1 hk1).1 hkn).trans hk1)
  · have := hP.size; have := hP2.size; have := hg.size; omega
theorem rep2_ptr {m : Mem} {ρ : List Value} {as' : List AV} {vs : List Value} (hv : RepL m ρ (.ptr 0 0 :: as') vs) : ∃ b us, ρ[0]? = some (selfP b) ∧ vs = selfP b :: us ∧ RepL m ρ as' us := by
  obtain ⟨u, us, rfl, h1, h2⟩ := RepL.one1 hv
  simp only [RepA] at h1
  obtain ⟨b, h3, rfl⟩ := h1
  exact ⟨b, us, h3, rfl, h2⟩
theorem os_one {m : Mem} {ρ : List Value} {o : AO} {φ : List Frag} {h : Value} (ho : OsRep m ρ [o] φ) (hh : ρ[0]? = some h) : ∃ f, φ = [f] ∧ ρ = [h] ∧ ORep m ρ o h f := by
  have h1 : ρ.length = 1 := ho.nρ
  have h2 : φ.length = 1 := ho.nφ
  obtain ⟨f, rfl⟩ := List.length_eq_one_iff.1 h2
  obtain ⟨h', rfl⟩ := List.length_eq_one_iff.1 h1
  simp at hh; subst hh
  exact ⟨f, rfl, rfl, ho.at_ 0 _ _ _ rfl rfl rfl⟩
theorem os_mk {m : Mem} {h : Value} {o : AO} {f : Frag} (ho : ORep m [h] o h f) : OsRep m [h] [o] [f] := ⟨rfl, rfl, fun i o' h' f' a b c => by
  cases i with
  | zero => simp at a b c; subst a b c; exact ho
  | succ i => simp at a⟩
/-- (*Builder).WriteString. -/
theorem bld_ws (L : Lays.n166 P ρ) (X : Builder.Extra P ρ) {s0 s : Str} (hn : strOk (s0.length + s.length) = true) : Runs P (ρ.f 166) [.ptr 0 0, .str s] [.bld (ρ.t 72) (ρ.t 5) s0] (fun q H' => q = [.int .i64 (s.length : Int), .nili] ∧ H' = [.bld (ρ.t 72) (ρ.t 5) (s0 ++ s)]) := by
  intro e w m ρ' φ F vs hv ho hs
  obtain ⟨b, us, h1, rfl, h2⟩ := rep2_ptr hv
  obtain ⟨u, us', rfl, h3, h4⟩ := RepL.one1 h2
  simp only [RepA] at h3
  subst h3
  cases us' with
  | cons => simp [RepL] at h4
  | nil =>
    obtain ⟨f, rfl, rfl, hf⟩ := os_one ho h1
    have hs' : SH e w m (f ++ F) := by simpa using hs
    obtain ⟨h0, b', p, buf, fb, h5, hp, rfl, hown, hfb⟩ := bld_open hf (fun q hq => hs'.own q (by simp [hq]))
    cases h5
    have hbk := hs'.own (b, .cells #[p, buf] (ρ.t 72) (0, 0)) (by simp)
    have hne : buf.ownBlock ≠ some b := by
      intro he
      rcases hfb with ⟨q, _⟩ | ⟨b2, o2, q, rfl⟩
      · rw [q] at he; cases he
      · rw [q] at he; cases he
        have := hs'.nd
        simp at this
    have hle : s0.length + (bstr s).size ≤ cap47 := by rw [bstr_size]; exact Nat.le_of_ble_eq_true hn
    refine Calls.mono (bld_ws_raw L X hp hbk hown hne (bstr s) hle) ?_
    rintro ex w' ⟨rfl, w1, w2, v', a1, a2, a3, a4, a5, a6, rfl⟩
    have hcat : Lib.strCells (bstr s0) ++ Lib.strCells (bstr s) = Lib.strCells (bstr (s0 ++ s)) := by simp [strCells_bstr]
    rw [hcat] at a3
    obtain ⟨f', c1, c2, c3, c4⟩ := bld_turn (ρ := [selfP b]) hs' hfb a1 a2 a3 (by rw [bstr_size, List.length_append]) (by rw [List.length_append]; exact Nat.le_of_ble_eq_true hn) a4 a5 a6
    refine ⟨_, rfl, ⟨c3, c4⟩, _, _, m, [selfP b], [f'], ⟨rfl, rfl⟩, Mem.le_refl _, fun _ _ h => h, Nat.le_refl _, os_mk c1, by simpa using c2, [.int .i64 (s.length : Int), .nilIface], ?_, ?_⟩
    · simp only [RepL, RepA]; exact ⟨trivial, trivial, trivial⟩
    · rw [bstr_size]; rfl

/-- But one block all stand as they stood. -/
structure ButB (g : Nat) (w w' : World) : Prop where
  os : w'.os = w.os
  tape : w'.tape = w.tape
  output : w'.output = w.output
  size : w.heap.size ≤ w'.heap.size
  other : ∀ k, k < w.heap.size → k ≠ g → w'.heap[k]? = w.heap[k]?
theorem butB_freeze {w : World} {g n : Nat} : ButB g w (w.drew.freeze ⟨g, 0, none⟩ n) := by
  unfold World.freeze
  split
  · exact ⟨rfl, rfl, rfl, Nat.le_refl _, fun _ _ _ => rfl⟩
  · exact ⟨rfl, rfl, rfl, by simp, fun k _ hk => by simp only [Array.getElem?_modify]; rw [if_neg (fun e => hk e.symm)]; rfl⟩
theorem ButB.sh {e w w' : World} {m : Mem} {g : Nat} {o : Obj} {r : Frag} (h : ButB g w w') (hs : SH e w m ((g, o) :: r)) : SH e w' m r := by
  have hlt : ∀ x o', w.heap[x]? = some o' → x < w.heap.size := fun x o' hx => (Array.getElem?_eq_some_iff.1 hx).1
  have hnd := hs.nd
  rw [List.map_cons, List.nodup_cons] at hnd
  refine ⟨h.os.trans hs.os, h.tape.trans hs.tape, h.output.trans hs.output, fun x o' hx => ?_, fun p hp => ?_, hnd.2, fun p hp => hs.dis p (List.mem_cons_of_mem _ hp), fun p hp => hs.noctl p (List.mem_cons_of_mem _ hp), hs.mctl⟩
  · have h1 := hs.fz x o' hx
    refine (h.other x (hlt _ _ h1) ?_).trans h1
    rintro rfl
    have := hs.dis (x, o) (by simp)
    simp only at this
    rw [hx] at this; cases this
  · have h1 := hs.own p (List.mem_cons_of_mem _ hp)
    refine (h.other p.1 (hlt _ _ h1) ?_).trans h1
    intro he
    exact hnd.1 (List.mem_map.2 ⟨p, hp, he⟩)
theorem ButB.dk {w w' : World} {g : Nat} {o : Obj} (h : ButB g w w') (hg : w.heap[g]? = some o) (hc : ctl o = false) : DK none w w' ∧ w.heap.size ≤ w'.heap.size := by
  refine ⟨fun k o' hk hc' _ => ?_, h.size⟩
  refine (h.other k (Array.getElem?_eq_some_iff.1 hk).1 ?_).trans hk
  rintro rfl
  rw [hg] at hk; cases hk; rw [hc] at hc'; cases hc'
set_option maxHeartbeats 1000000 in
set_option maxRecDepth 100000 in
theorem bld_str_raw (L : Lays.n169 P ρ) (X : Builder.Extra P ρ) {b g cap : Nat} {w : World} {p : Value} {cur : Array Value} {l : List UInt8} (h0 : l ≠ []) (hbk : w.heap[b]? = some (.cells #[p, .slice (some ⟨g, 0, none⟩) l.length cap] (ρ.t 72) (0, 0))) (hg : w.heap[g]? = some (.cells cur (ρ.t 5) (0, 0))) (hnc : l.length ≤ cap) (hcm : cap ≤ maxLen) (hcs : cur.size = cap) (htake : cur.toList.take l.length = l.map fun x => Value.int .u8 x.toNat) :
    Calls P (ρ.f 169) #[selfP b] w fun e w' => e = .returned (.string ⟨l.toArray⟩) ∧ ButB g w w' := by
  have hl0 : l.length ≠ 0 := by simpa using h0
  have c1 : w.drew.cell? ⟨b, 1, none⟩ = some (.slice (some ⟨g, 0, none⟩) l.length cap) := by
    have : w.drew.heap[b]? = some (.cells #[p, .slice (some ⟨g, 0, none⟩) l.length cap] (ρ.t 72) (0, 0)) := hbk
    rw [Lib.cell_of_heap this]; rfl
  have hSD : (Builtin.unsafeSliceData_ #[(ρ.t 37)] (ρ.t 127) #[.slice (some ⟨g, 0, none⟩) l.length cap]).run P w.drew = .ok (.pointer (some ⟨g, 0, none⟩)) w.drew :=
    Lib.run_unsafeSliceData_row _ _ _ _ _ _ (by omega)
  have hUS : (Builtin.unsafeString_ #[(ρ.t 127), (ρ.t 3)] (ρ.t 9) #[.pointer (some ⟨g, 0, none⟩), .int .i64 l.length]).run P w.drew = .ok (.string ⟨l.toArray⟩) (w.drew.freeze ⟨g, 0, none⟩ l.length) := by
    refine Lib.run_unsafeString_row w.drew (ρ.t 127) (ρ.t 3) (ρ.t 9) (ρ.t 5) L.t127 X.cellsByte g cur.size (by have hg' : w.drew.heap[g]? = some (.cells cur (ρ.t 5) (0, 0)) := hg; simp [World.shape?, hg']) l h0 (by omega) (by unfold maxLen at hcm; omega) ?_
    intro j x hx
    have h3 : (cur.toList.take l.length)[j]? = some (.int .u8 x.toNat) := by rw [htake, List.getElem?_map, hx]; rfl
    rw [List.getElem?_take] at h3
    split at h3
    · rw [add_lit, Nat.zero_add]
      exact cell_blk (w := w.drew) hg (by simpa using h3)
    · cases h3
  have mixed := L.mixed
  have t72 := L.t72; have a72 := L.a72; have z72 := L.z72; have v72 := L.v72; have u72 := run_underlying L.t72
  have t70 := L.t70; have a70 := L.a70; have z70 := L.z70; have v70 := L.v70; have u70 := run_underlying L.t70
  have t37 := L.t37; have a37 := L.a37; have z37 := L.z37; have v37 := L.v37; have u37 := run_underlying L.t37
  have t127 := L.t127; have a127 := L.a127; have z127 := L.z127; have v127 := L.v127; have u127 := run_underlying L.t127
  have t3 := L.t3; have a3 := L.a3; have z3 := L.z3; have v3 := L.v3; have u3 := run_underlying L.t3
  have t9 := L.t9; have a9 := L.a9; have z9 := L.z9; have v9 := L.v9; have u9 := run_underlying L.t9
  have t5 := X.t5; have a5 := X.a5; have z5 := X.z5; have v5 := X.v5; have u5 := run_underlying X.t5
  go_enter L.f169, Body.n169_ntmps ρ
  go_wp2
  go_region_o
  all_goals (go_wp2; go_ret; exact ⟨rfl, butB_freeze⟩)
/-- (*Builder).String: the builder is not used any more. -/
theorem bld_str (L : Lays.n169 P ρ) (X : Builder.Extra P ρ) {s0 : Str} : Runs P (ρ.f 169) [.ptr 0 0] [.bld (ρ.t 72) (ρ.t 5) s0] (fun q H' => q = [.str s0] ∧ H' = [.dead]) := by
  intro e w m ρ' φ F vs hv ho hs
  obtain ⟨b, us, h1, rfl, h2⟩ := rep2_ptr hv
  cases us with
  | cons => simp [RepL] at h2
  | nil =>
    obtain ⟨f, rfl, rfl, hf⟩ := os_one ho h1
    have hs' : SH e w m (f ++ F) := by simpa using hs
    have fin : ∀ w', SH e w' m F → (DK none w w' ∧ w.heap.size ≤ w'.heap.size) → ∃ v, (Ending.returned (.string (bstr s0))) = .returned v ∧ (DK none w w' ∧ w.heap.size ≤ w'.heap.size) ∧ ∃ rs H' m' ρ'' φ', (rs = [AV.str s0] ∧ H' = [AO.dead]) ∧ m.le m' ∧ (∀ (i : Nat) (h : Value), [selfP b][i]? = some h → ρ''[i]? = some h) ∧ [AO.bld (ρ.t 72) (ρ.t 5) s0].length ≤ H'.length ∧ OsRep m' ρ'' H' φ' ∧ SH e w' m' (φ'.flatten ++ F) ∧ ∃ us, RepL m' ρ'' rs us ∧ v = tupleOf us := by
      intro w' g1 g2
      refine ⟨_, rfl, g2, _, _, m, [selfP b], [[]], ⟨rfl, rfl⟩, Mem.le_refl _, fun _ _ h => h, Nat.le_refl _, os_mk rfl, by simpa using g1, [.string (bstr s0)], ?_, rfl⟩
      simp only [RepL, RepA]; exact ⟨trivial, trivial⟩
    obtain ⟨h0, b', h5, ⟨rfl, p, hp, rfl⟩ | ⟨b2, c, cs, rfl, a1, a2, a3, a4⟩⟩ := hf
    · cases h5
      have hbk := hs'.own (b, .cells #[p, .slice none 0 0] (ρ.t 72) (0, 0)) (by simp)
      refine Calls.mono (Any.Builder_String_nil L X w.heap.size b p w hbk) ?_
      rintro ex w' ⟨rfl, hB⟩
      exact fin w' ((hs'.ext hB).tail (f := [_])) ⟨DK.of_below hB, hB.size⟩
    · cases h5
      have hbk := hs'.own (b, .cells #[selfP b, .slice (some ⟨b2, 0, none⟩) s0.length c] (ρ.t 72) (0, 0)) (by simp)
      have hg := hs'.own (b2, .cells cs (ρ.t 5) (0, 0)) (by simp)
      simp only at hbk hg
      by_cases hnil : s0 = []
      · subst hnil
        by_cases hc0 : c = 0
        · subst hc0
          refine Calls.mono (Any.Builder_String_noroom L X w.heap.size b b2 (selfP b) cs w (Nat.le_refl _) hbk hg) ?_
          rintro ex w' ⟨rfl, hB⟩
          exact fin w' ((hs'.ext hB).tail (f := [_, _])) ⟨DK.of_below hB, hB.size⟩
        · refine Calls.mono (Any.Builder_String_room L X w.heap.size b b2 c (selfP b) w hc0 hbk) ?_
          rintro ex w' ⟨rfl, hB⟩
          exact fin w' ((hs'.ext hB).tail (f := [_, _])) ⟨DK.of_below hB, hB.size⟩
      · refine Calls.mono (bld_str_raw L X hnil hbk hg a1 a2 a3 a4) ?_
        rintro ex w' ⟨rfl, hB⟩
        have hs2 : SH e w m ((b2, .cells cs (ρ.t 5) (0, 0)) :: ((b, .cells #[selfP b, .slice (some ⟨b2, 0, none⟩) s0.length c] (ρ.t 72) (0, 0)) :: F)) := hs'.perm (List.Perm.swap _ _ _)
        exact fin w' ((hB.sh hs2).tail (f := [_])) (hB.dk hg rfl)
/-- A builder that is made. -/
theorem wk_bld {X : Cx} {st : AS} {i : Nat} {T : TypeId} (E : TypeId) (hH : st.H.get i = .var T [.nilp, .nils]) (hi : Nat.blt i st.n = true) : Wk X st (st.upd i (.bld T E [])) := by
  intro fr w m ρ φ hc
  have hil : i < ρ.length := by rw [hc.nρ]; simpa using hi
  have hρ : ρ[i]? = some (ρ[i]'hil) := List.getElem?_eq_getElem hil
  obtain ⟨f, hf, ho, hw⟩ := hc.obj hρ
  rw [hH] at ho
  obtain ⟨b, us, h1, rfl, h3, h4⟩ := ho
  have hu : us = [.pointer none, .slice none 0 0] := by
    obtain ⟨u, us', rfl, g1, g2⟩ := RepL.one1 h3
    obtain ⟨u2, us2, rfl, g3, g4⟩ := RepL.one1 g2
    simp only [RepA] at g1 g3
    subst g1 g3
    cases us2 with
    | nil => rfl
    | cons => simp [RepL] at g4
  subst hu
  exact ⟨m, ρ, _, hc.turn hρ hf (hc.front hf) ⟨Nat.zero_le _, b, h1, .inl ⟨rfl, _, .inl rfl, rfl⟩⟩⟩
end
end Go.Ab


set_option linter.unusedVariables false
set_option linter.unusedSimpArgs false
namespace Go.Ab
open Go.RowKit Go.Shelf Go.Proofs Go.Eng
section
variable {P : Program} {N : Ev} {X : Cx} {Q : APost} {st : AS}
variable {d : Nat} {T U T' : TypeId} {pos : String} {aft : Array Edge} {g : Option (Nat × Bool)} {x y z : Operand} {k ky : IntKind} {a b : Int}

theorem op_indexArr {l : Fr} {w : World} {K : Fr → World → Prop} {Q : Post} {b o n c e sz j : Nat} {i : Int} {kd : IntKind} (hx : evo l x = some (.pointer (some ⟨b, o, none⟩))) (hy : evo l y = some (.int kd i)) (hU : Und P T (.array n e)) (hS : Sz P e sz) (hj : i = (j : Int)) (hlt : j < n)
    (hN : Nat.blt d N.n = true) (k : K ((d, .pointer (some ⟨b, o + j * sz, none⟩)) :: l) w) :
    OpW P N ⟨some d, .indexAddr T x y, U, pos, aft, g⟩ K Q l w := by
  subst hj
  refine op_val rfl hN (fun s hs => ?_) k
  simp [execOp, hs.eval hx, hs.eval hy, Instr.indexAt, asIntOf, run_underlying hU, hS w, add_lit, hlt, Instr.sureAddr]
/-- A place of an array, of the call's own. -/
theorem av_ia_parr {i o o' n e sz : Nat} (hU : Und P T (.array n e)) (hS : Sz P e sz) (hx : aev st.l x = some (.ptr i o)) (hy : aev st.l y = some (.int k a)) (hb : (decide (0 ≤ a) && decide (a < n)) = true) (ho : o + a.toNat * sz = o') (hN : Nat.blt d N.n = true := by rfl) :
    AOpV P N X ⟨some d, .indexAddr T x y, U, pos, aft, g⟩ (.ptr i o') st :=
  av_of rfl fun Q fr w m ρ φ hc => by
    subst ho
    simp only [Bool.and_eq_true, decide_eq_true_eq] at hb
    obtain ⟨p, h1, h2⟩ := hc.ev hx
    simp only [RepA] at h2
    obtain ⟨b, h3, rfl⟩ := h2
    exact ⟨_, by simp only [RepA]; exact ⟨b, h3, rfl⟩, fun K hk => op_indexArr (c := 0) (j := a.toNat) h1 (hc.int hy) hU hS (by omega) (by omega) hN hk⟩
end
end Go.Ab

