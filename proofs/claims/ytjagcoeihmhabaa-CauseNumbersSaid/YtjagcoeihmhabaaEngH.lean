/- Lemmas for a law of the seat: what functions of the program do, each stated as a contract of its own (module EngH). -/
import Derived.Test.YtjagcoeihmhabaaEngE
import Derived.RangeFuncLeaves
set_option linter.unusedVariables false
set_option linter.unusedSimpArgs false
namespace Go.Eng
open Go.RowKit Go.Shelf Go.Proofs

/-! loops over functions -/

/-- Nothing turns but the blocks of FT, and loops' records from b on. -/
structure But (FT : List Nat) (b : Nat) (w w' : World) : Prop where
  os : w'.os = w.os
  tape : w'.tape = w.tape
  output : w'.output = w.output
  size : w.heap.size ≤ w'.heap.size
  same : ∀ (k : Nat) (o : Obj), w.heap[k]? = some o → k ∉ FT → (ctl o = false ∨ k < b) → w'.heap[k]? = some o

theorem But.refl {FT : List Nat} {b : Nat} {w : World} : But FT b w w := ⟨rfl, rfl, rfl, Nat.le_refl _, fun _ _ h _ _ => h⟩
theorem But.trans {FT : List Nat} {b : Nat} {u v w : World} (h : But FT b u v) (k : But FT b v w) : But FT b u w :=
  ⟨k.os.trans h.os, k.tape.trans h.tape, k.output.trans h.output, Nat.le_trans h.size k.size, fun i o hi hf hc => k.same i o (h.same i o hi hf hc) hf hc⟩
theorem But.mono {FT FT' : List Nat} {b b' : Nat} {w w' : World} (h : But FT b w w') (hF : ∀ k ∈ FT, k ∈ FT') (hb : b' ≤ b) : But FT' b' w w' :=
  ⟨h.os, h.tape, h.output, h.size, fun k o hk hf hc => h.same k o hk (fun hm => hf (hF k hm)) (hc.imp id (fun hl => Nat.lt_of_lt_of_le hl hb))⟩
theorem But.of_below {FT : List Nat} {b : Nat} {w w' : World} (h : Below w.heap.size w w') : But FT b w w' :=
  ⟨h.os, h.tape, h.output, h.size, fun k o hk _ _ => (h.block k (Array.getElem?_eq_some_iff.1 hk).1).trans hk⟩
theorem But.of_put {FT : List Nat} {b x : Nat} {w w' : World} (h : Put w w' x) (hx : x ∈ FT) : But FT b w w' :=
  ⟨h.os, h.tape, h.output, by rw [h.size]; exact Nat.le_refl _, fun k o hk hf _ => (h.other k (fun e => hf (e ▸ hx))).trans hk⟩
theorem But.of_grown {FT : List Nat} {b : Nat} {w w' : World} {r : Option Nat} (h : w.grownBy w' r) (hx : ∀ k, r = some k → k ∈ FT) : But FT b w w' :=
  ⟨h.os, h.tape, h.output, h.size, fun k o hk hf _ => (h.block k (Array.getElem?_eq_some_iff.1 hk).1 (fun e => hf (hx k e.symm))).trans hk⟩
/-- What turns lies at or beyond B. -/
theorem But.below {FT : List Nat} {b B : Nat} {w w' : World} (h : But FT b w w') (hF : ∀ k ∈ FT, B ≤ k) (hb : B ≤ b) (hB : B ≤ w.heap.size) : Below B w w' :=
  ⟨h.os, h.tape, h.output, h.size, fun k hk => by
    have hlt : k < w.heap.size := Nat.lt_of_lt_of_le hk hB
    have e : w.heap[k]? = some (w.heap[k]'hlt) := Array.getElem?_eq_getElem hlt
    rw [e]
    exact h.same k _ e (fun hm => by have := hF k hm; omega) (.inr (by omega))⟩
theorem but_blk {FT : List Nat} {b x : Nat} {w w' : World} {cs : Array Value} {T : TypeId} {fr : Nat × Nat} (h : w.heap[x]? = some (.cells cs T fr)) (k : But FT b w w') (hx : x ∉ FT) : w'.heap[x]? = some (.cells cs T fr) := k.same x _ h hx (.inl rfl)
theorem but_own {α : Type} {enc : α → List Value} {FT : List Nat} {b base e sz : Nat} {w w' : World} {v : Value} {xs : List α} (h : Own enc base e sz w v xs) (k : But FT b w w') (hF : ∀ x ∈ FT, x < base) : Own enc base e sz w' v xs := by
  refine ⟨h.1, ?_⟩
  rcases h.2 with h2 | ⟨g, cap, cur, hv, hb, hg, hr⟩
  · exact .inl h2
  · refine .inr ⟨g, cap, cur, hv, hb, k.same g _ hg (fun hm => ?_) (.inl rfl), hr⟩
    have := hF g hm
    omega

/-- A frame with the loop's variables. -/
def zipFr : Fr → List Nat → List Value → Fr
  | l, p :: ps, v :: vs => zipFr ((p, v) :: l) ps vs
  | l, _, _ => l
theorem zip_hold {N : Ev} {ps : List Nat} : ∀ {vs : List Value} {l : Fr} {tm : Array Value} {ds : List Deferred}, (ps.all fun p => Nat.blt p N.n) = true → Holds N l { tmps := tm, defers := ds } →
    Holds N (zipFr l ps vs) { tmps := (ps.zip vs).foldl (fun t (p, v) => t.setIfInBounds p v) tm, defers := ds } := by
  induction ps with
  | nil => intro vs l tm ds _ h; simpa [zipFr] using h
  | cons p ps ih =>
    intro vs l tm ds hp h
    cases vs with
    | nil => simpa [zipFr] using h
    | cons v vs =>
      simp only [List.all_cons, Bool.and_eq_true] at hp
      simp only [zipFr, List.zip_cons_cons, List.foldl_cons]
      refine ih hp.2 ?_
      have := h.put (d := p) (by simpa using hp.1) v
      simpa [Act.put] using this

section
variable {P : Program}

/-- What a call of the loop's own function gives. -/
def YieldC (P : Program) (l : Nat) (args : List Value) (W : World) (R : Bool → World → Prop) : Prop :=
  YieldAt (FW none) 0 P l args.toArray W fun e W' => ∃ b, e = .returned (.bool b) ∧ DK (some l) W W' ∧ W.heap.size ≤ W'.heap.size ∧ R b W'

/-- The iterator gf, with what it has captured: it tells S, and turns nothing but the blocks of FT, as long as the rounds leave what lies below n0. -/
def SeqC {α : Type} (P : Program) (gf : Nat) (lb : List Value) (encs : α → List Value) (FT : List Nat) (S : List α) (n0 : Nat) (w : World) : Prop :=
  ∀ (l : Nat) (J Jx : List α → World → Prop) (W : World), Below w.heap.size w W → w.heap.size ≤ l ∧ l < W.heap.size →
    (∀ pre W1 W2, J pre W1 → But FT W1.heap.size W1 W2 → J pre W2) → (∀ pre W1 W2, Jx pre W1 → But FT W1.heap.size W1 W2 → Jx pre W2) →
    (∀ pre x rest W1, S = pre ++ x :: rest → J pre W1 → YieldC P l (encs x) W1 fun b W' => Below n0 W1 W' ∧ if b then J (pre ++ [x]) W' else Jx (pre ++ [x]) W') →
    J [] W →
    Calls P gf (.func (.yield l) #[] #[] :: lb).toArray W fun e W' => ∃ v, e = .returned v ∧ DK (some l) W W' ∧ W.heap.size ≤ W'.heap.size ∧ (J S W' ∨ ∃ pre x rest, S = pre ++ x :: rest ∧ Jx (pre ++ [x]) W')

def jumpOf : Exit → Option Code
  | .ret => some .ret
  | .exit id => some (.exit id)
  | _ => none

/-- How a round's body is left. -/
def roundQ {α : Type} (n0 : Nat) (I : List α → World → Prop) (Ix : Exit → World → Prop) (pre : List α) (W : World) : Post
  | .normal, _, W' => Below n0 W W' ∧ I pre W'
  | .ret, _, W' => Below n0 W W' ∧ Ix .ret W'
  | .exit id, _, W' => Below n0 W W' ∧ Ix (.exit id) W'
  | _, _, _ => False
def nopost : Post := fun _ _ _ => False

theorem below_put {n0 l : Nat} {W : World} {o : Obj} (h : n0 ≤ l) : Below n0 W (W.putObj l o) :=
  ⟨rfl, rfl, rfl, by simp, fun k hk => World.putObj_heap_other (by omega)⟩
theorem dk_putObj {l : Nat} {W : World} {o : Obj} : DK (some l) W (W.putObj l o) := fun k o' hk _ he => (World.putObj_heap_other (fun e => he (by rw [e]))).trans hk
theorem but_putObj {FT : List Nat} {b l : Nat} {W : World} {o o' : Obj} (hb : b ≤ l) (hl : W.heap[l]? = some o) (ho : ctl o = true) : But FT b W (W.putObj l o') := by
  refine ⟨rfl, rfl, rfl, by simp, fun k o2 hk hf hc => ?_⟩
  by_cases e : k = l
  · subst e
    rw [hl] at hk; cases hk
    rcases hc with hc | hc
    · rw [ho] at hc; cases hc
    · omega
  · exact (World.putObj_heap_other e).trans hk

theorem wc_range {α : Type} {N : Ev} {Q : Post} {l : Fr} {w : World} {g : Operand} {ps : List Nat} {assign body : Code} {gf : Nat} {lb : List Value} {encs : α → List Value} {FT : List Nat} {S : List α} {n0 : Nat}
    (hro : N.ro = none) (hmr : N.mr = true) (hg : evo l g = some (.func (.func gf) #[] lb.toArray)) (hE : Enters P gf) (hseq : SeqC P gf lb encs FT S n0 w) (hps : ∀ x, Nat.beq (encs x).length ps.length = true) (hpn : (ps.all fun p => Nat.blt p N.n) = true)
    (hn0 : n0 ≤ w.heap.size) (hFT : ∀ k ∈ FT, k < w.heap.size) (I : List α → World → Prop) (Ix : Exit → World → Prop)
    (hI : ∀ pre W1 W2, I pre W1 → But FT w.heap.size W1 W2 → I pre W2) (hIx : ∀ e W1 W2, Ix e W1 → But FT w.heap.size W1 W2 → Ix e W2) (h0 : I [] w)
    (hbody : ∀ l0 pre x rest W, S = pre ++ x :: rest → I pre W → w.heap.size ≤ W.heap.size → WC P ⟨N.n, some l0, W, none, false⟩ assign (thenK (fun l' W1 => Below n0 W W1 ∧ ∀ W2, But [] w.heap.size W1 W2 → W1.heap.size = W2.heap.size →
      WC P ⟨N.n, some l0, W2, none, false⟩ body (roundQ n0 I Ix (pre ++ [x]) W2) l' W2) nopost) (zipFr l ps (encs x)) W)
    (hdone : ∀ W, I S W → w.heap.size ≤ W.heap.size → Q .normal l W) (hstop : ∀ e W, Ix e W → w.heap.size ≤ W.heap.size → (jumpOf e).isSome = true → Q e l W) :
    WC P N (.rangeFunc g ps.toArray assign body) Q l w := by
  intro a ha hgd
  rw [hro]
  refine wpIn_rangeFunc ?_
  intro fn hfn
  obtain ⟨rec, hrec⟩ : ∃ rec : LoopState → Option Code → Loop, rec = fun st pe => { state := st, pending := pe, fn, tmps := a.tmps, params := ps.toArray, assign, body, defers := w.heap.size } := ⟨_, rfl⟩
  obtain ⟨W1, hW1⟩ : ∃ W1, (w.alloc (.deferred (some []))).alloc (.loop (rec .ready none)) = W1 := ⟨_, rfl⟩
  obtain ⟨L, hL⟩ : ∃ L, L = w.heap.size + 1 := ⟨_, rfl⟩
  have hL1 : W1.heap[L]? = some (.loop (rec .ready none)) := by
    rw [← hW1, hL]; have := World.alloc_heap_new (w.alloc (.deferred (some []))) (.loop (rec .ready none)); rwa [World.size_alloc] at this
  have hK1 : W1.heap[w.heap.size]? = some (.deferred (some [])) := by
    rw [← hW1]; exact (Below.heap_alloc _ _ _ (by simp)).trans (World.alloc_heap_new w _)
  have hb1 : Below w.heap.size w W1 := by
    rw [← hW1]; exact (((Below.refl _ w).alloc (Nat.le_refl _) _).alloc (by simp) _)
  have hs1 : W1.heap.size = w.heap.size + 2 := by rw [← hW1]; simp
  have hwL : w.heap.size ≤ L := by omega
  refine ⟨L, [mark w.heap.size], W1, { target := .fn (.func gf) lb.toArray, args := #[.func (.yield L) #[] #[]] }, W1, gf, (.func (.yield L) #[] #[] :: lb).toArray, W1, ?_, ?_, ?_, ?_, (fun h => by simp [FW] at h), ?_⟩
  · rw [← hW1, hrec, hL]; exact run_enterLoop_outer _ _ _ _ _
  · simp only [resolve, ha.eval hg]
    simp [go_sem]
  · intro f' hf'; trivial
  · have he := hE (#[.func (.yield L) #[] #[]] ++ lb.toArray) W1
    simp only [invoke]
    have e2 : (#[Value.func (.yield L) #[] #[]] ++ lb.toArray : Array Value) = (.func (.yield L) #[] #[] :: lb).toArray := by simp
    rw [e2] at he
    simpa [go_sem, e2] using he
  · have hfin : ∀ (J : Prop) (W : World) (c : Option Code), W.heap[L]? = some (.loop (rec (if c.isNone then .ready else .done) c)) → DK (some L) W1 W → W1.heap.size ≤ W.heap.size →
        (Instr.endLoop L).run P W = .ok c (W.putObj L (.loop { rec (if c.isNone then .ready else .done) c with state := .exhausted })) ∧
        Good N { a with defers := [mark w.heap.size] ++ a.defers } (W.putObj L (.loop { rec (if c.isNone then .ready else .done) c with state := .exhausted })) := by
      intro _ W c hl hdk hsz
      have h1 := run_endLoop (P := P) hl (by rw [hrec]; cases c <;> simp)
      refine ⟨by rw [h1]; rw [hrec], ?_⟩
      have hstep : DK N.ex w (W.putObj L (.loop { rec (if c.isNone then .ready else .done) c with state := .exhausted })) := by
        intro k o hk hc hx
        have hlt : k < w.heap.size := (Array.getElem?_eq_some_iff.1 hk).1
        have hk1 : W1.heap[k]? = some o := (hb1.block k hlt).trans hk
        have hk2 := hdk k o hk1 hc (by intro e; cases e; omega)
        exact (World.putObj_heap_other (by omega)).trans hk2
      have hgw := hgd.step (a' := a) rfl hstep (by simp; omega)
      obtain ⟨Ds, d1, d2, d3, d4⟩ := hgw.marks
      have hD : W.heap[w.heap.size]? = some (.deferred (some [])) := hdk _ _ hK1 rfl (by intro e; cases e; omega)
      have hDn : w.heap.size ∉ Ds := by
        intro hm
        obtain ⟨Ds', e1, _, _, e4⟩ := hgd.marks
        have : Ds = Ds' := by
          have := d1.symm.trans e1
          have hinj : ∀ x y, mark x = mark y → x = y := by intro x y h; simpa [mark] using h
          exact (List.map_inj_right hinj).1 this
        subst this
        have := (Array.getElem?_eq_some_iff.1 (e4 _ hm).2.2).1
        omega
      refine ⟨hgw.dk, hgw.size, hgw.exlt, ⟨w.heap.size :: Ds, by simp [d1], (fun h => by rw [hmr] at h; cases h), List.nodup_cons.2 ⟨hDn, d3⟩, fun D hm => ?_⟩, hgw.rnd⟩
      rcases List.mem_cons.1 hm with rfl | hm
      · refine ⟨hgd.size, fun e => ?_, (World.putObj_heap_other (by omega)).trans hD⟩
        have := hgd.exlt _ e
        have := hgd.size
        omega
      · exact d4 D hm
    have hLF : L ∉ FT := fun hm => by have := hFT L hm; omega
    have hn0L : n0 ≤ L := by omega
    have hholds : Holds N l { a with defers := [mark w.heap.size] ++ a.defers } := ⟨ha.size, ha.slot⟩
    refine CallsIn.mono (calls_FW (hseq L (fun pre W => I pre W ∧ W.heap[L]? = some (.loop (rec .ready none)) ∧ w.heap.size ≤ W.heap.size)
      (fun pre W => ∃ e c, jumpOf e = some c ∧ Ix e W ∧ W.heap[L]? = some (.loop (rec .done (some c))) ∧ w.heap.size ≤ W.heap.size) W1 hb1 ⟨hwL, by omega⟩ ?_ ?_ ?_ ⟨?_, hL1, by omega⟩)) ?_
    · rintro pre A B ⟨h1, h2, h3⟩ hAB
      exact ⟨hI _ _ _ h1 (hAB.mono (fun _ h => h) h3), hAB.same _ _ h2 hLF (.inr (Array.getElem?_eq_some_iff.1 h2).1), Nat.le_trans h3 hAB.size⟩
    · rintro pre A B ⟨e, c, hj, h1, h2, h3⟩ hAB
      exact ⟨e, c, hj, hIx _ _ _ h1 (hAB.mono (fun _ h => h) h3), hAB.same _ _ h2 hLF (.inr (Array.getElem?_eq_some_iff.1 h2).1), Nat.le_trans h3 hAB.size⟩
    · rintro pre x rest W hS ⟨hi, hl, hsz⟩
      have hy := run_yield (P := P) (args := (encs x).toArray) hl (by rw [hrec]; have := Nat.eq_of_beq_eq_true (hps x); simpa using this)
      rw [hrec] at hy
      have hbd := hbody L pre x rest W hS hi hsz
      have hst := hbd { tmps := (ps.toArray.zip (encs x).toArray).foldl (fun t (p, v) => t.setIfInBounds p v) a.tmps, defers := [] } (by
          have := zip_hold (N := ⟨N.n, some L, W, none, false⟩) (ps := ps) (vs := encs x) (l := l) (tm := a.tmps) (ds := []) hpn ⟨ha.size, ha.slot⟩
          simpa using this)
        ⟨DK.refl, Nat.le_refl _, (fun _ h => by cases h), ⟨[], rfl, fun _ => rfl, List.nodup_nil, fun D h => by cases h⟩, fun l0 h0 => by cases h0; exact ⟨by simp, _, hl⟩⟩
      refine ⟨fn, _, assign, body, hy, roundIn_of_wpIn (F := FW none) hfn (wpIn_mono hst ?_)⟩
      rintro e a1 V1 ⟨l1, hl1, g1, q1⟩
      cases e with
      | normal =>
        obtain ⟨hB1, hq⟩ := q1
        have hr1 : V1.heap[L]? = some (.loop (rec .ready none)) := g1.dk L _ hl rfl (by simp)
        have hbr := run_beginRound (P := P) hr1 (by rw [hrec])
        obtain ⟨V2, hV2⟩ : ∃ V2, V1.putObj L (.loop { rec .ready none with state := .busy }) = V2 := ⟨_, rfl⟩
        rw [hV2] at hbr
        have hlt1 : L < V1.heap.size := (Array.getElem?_eq_some_iff.1 hr1).1
        have hr2 : V2.heap[L]? = some (.loop { rec .ready none with state := .busy }) := by rw [← hV2]; exact World.putObj_heap_same hlt1
        have hs2 : V1.heap.size = V2.heap.size := by rw [← hV2]; simp
        have hd1 : a1.defers = [] := by
          obtain ⟨Ds, e1, e2, _⟩ := g1.marks
          rw [e1, e2 rfl]; rfl
        refine ⟨V2, hbr, wpIn_mono (hq V2 (by rw [← hV2]; exact but_putObj hwL hr1 rfl) hs2 a1 ⟨hl1.size, hl1.slot⟩
          ⟨DK.refl, Nat.le_refl _, (fun _ h => by cases h), ⟨[], hd1, fun _ => rfl, List.nodup_nil, fun D h => by cases h⟩, fun l0 h0 => by cases h0; exact ⟨by simp, _, hr2⟩⟩) ?_⟩
        have hdk12 : DK (some L) V1 V2 := by rw [← hV2]; exact dk_putObj
        have hB12 : Below n0 V1 V2 := by rw [← hV2]; exact below_put hn0L
        have fin : ∀ (jump : Option Code) (V3 : World) (l3 : Fr) (a3 : Act), Good ⟨N.n, some L, V2, none, false⟩ a3 V3 → Below n0 V2 V3 →
            ∃ V4, (Instr.endRound L jump).run P V3 = .ok (.bool jump.isNone) V4 ∧ V4.heap[L]? = some (.loop (rec (if jump.isNone then .ready else .done) jump)) ∧ DK (some L) W V4 ∧ W.heap.size ≤ V4.heap.size ∧ Below n0 W V4 ∧ But FT w.heap.size V3 V4 ∧ w.heap.size ≤ V4.heap.size := by
          intro jump V3 l3 a3 g3 hB3
          have hr3 : V3.heap[L]? = some (.loop { rec .ready none with state := .busy }) := g3.dk L _ hr2 rfl (by simp)
          have hlt3 : L < V3.heap.size := (Array.getElem?_eq_some_iff.1 hr3).1
          have hend := run_endRound (P := P) jump hr3
          have h13 : W.heap.size ≤ V1.heap.size := g1.size
          have h23 : V2.heap.size ≤ V3.heap.size := g3.size
          refine ⟨_, hend, ?_, ?_, ?_, ?_, but_putObj hwL hr3 rfl, ?_⟩
          · rw [World.putObj_heap_same hlt3, hrec]
          · exact ((g1.dk.some.trans hdk12).trans g3.dk.some).trans dk_putObj
          · simp; omega
          · exact ((hB1.trans hB12).trans hB3).trans (below_put hn0L)
          · simp; omega
        rintro e a3 V3 ⟨l3, hl3, g3, q3⟩
        cases e with
        | normal =>
          obtain ⟨hB3, hI3⟩ := q3
          obtain ⟨V4, f1, f2, f3, f4, f5, f6, f7⟩ := fin none V3 l3 a3 g3 hB3
          exact ⟨_, V4, f1, true, rfl, f3, f4, f5, hI _ _ _ hI3 f6, f2, f7⟩
        | ret =>
          obtain ⟨hB3, hI3⟩ := q3
          obtain ⟨V4, f1, f2, f3, f4, f5, f6, f7⟩ := fin (some .ret) V3 l3 a3 g3 hB3
          exact ⟨_, V4, f1, false, rfl, f3, f4, f5, .ret, .ret, rfl, hIx _ _ _ hI3 f6, f2, f7⟩
        | exit id =>
          obtain ⟨hB3, hI3⟩ := q3
          obtain ⟨V4, f1, f2, f3, f4, f5, f6, f7⟩ := fin (some (.exit id)) V3 l3 a3 g3 hB3
          exact ⟨_, V4, f1, false, rfl, f3, f4, f5, .exit id, .exit id, rfl, hIx _ _ _ hI3 f6, f2, f7⟩
        | _ => exact q3.elim
      | _ => exact q1.elim
    · exact hI _ _ _ h0 (But.of_below hb1)
    · rintro e W ⟨v, rfl, hdk, hsz, (⟨hi, hl, h3⟩ | ⟨pre, x, rest, hS, e, c, hj, hi, hl, h3⟩)⟩
      · obtain ⟨f1, f2⟩ := hfin True W none hl hdk hsz
        exact ⟨none, _, f1, l, hholds, f2, hdone _ (hI _ _ _ hi (but_putObj hwL hl rfl)) (by simp; omega)⟩
      · obtain ⟨f1, f2⟩ := hfin True W (some c) hl hdk hsz
        refine ⟨some c, _, f1, ?_⟩
        have hq := fun o' => hstop e (W.putObj L o') (hIx _ _ _ hi (but_putObj hwL hl rfl)) (by simp; omega) (by rw [hj]; rfl)
        cases e with
        | ret => simp [jumpOf] at hj; subst hj; exact wpIn_ret ⟨l, hholds, f2, hq _⟩
        | exit id => simp [jumpOf] at hj; subst hj; exact wpIn_exit ⟨l, hholds, f2, hq _⟩
        | _ => simp [jumpOf] at hj

/-- Behind the body of a function with loops over functions: what is told holds when their records are shut, too. -/
def retQM (P : Program) (rs : List ResultVar) (w0 : World) (R : Value → World → Prop) : Post
  | .normal, l, w | .ret, l, w => ∀ w', But [] w0.heap.size w w' → w.heap.size = w'.heap.size → ∃ vs, OutsAt P l w' rs vs ∧ R (tupleOf vs) w'
  | _, _, _ => False

theorem leaves_marks {fn : Func} {tm : Array Value} {R : Ending → World → Prop} {b : Nat} : ∀ {Ds : List Nat} {w : World}, Ds.Nodup → (∀ D ∈ Ds, b ≤ D ∧ w.heap[D]? = some (.deferred (some []))) →
    (∀ w', But [] b w w' → w.heap.size = w'.heap.size → DK none { w with heap := w.heap.extract 0 b } w' → ∃ v, (results fn tm).run P w' = .ok v w' ∧ R (.returned v) w') →
    LeavesInM Fence.wide 0 P fn tm R (Ds.map mark) .returning w := by
  intro Ds
  induction Ds with
  | nil =>
    intro w _ _ h
    refine h w But.refl rfl ?_
    intro k o hk _ _
    have hk' : (w.heap.extract 0 b)[k]? = some o := hk
    rw [Array.getElem?_extract] at hk'
    split at hk'
    · simpa using hk'
    · cases hk'
  | cons D Ds ih =>
    intro w hn hD h
    obtain ⟨hn1, hn2⟩ := List.nodup_cons.1 hn
    obtain ⟨hb, hd⟩ := hD D (by simp)
    have hstep : But [] b w (w.putObj D (.deferred none)) := but_putObj hb hd rfl
    refine ⟨by simp, .inl ⟨D, w.putObj D (.deferred none), rfl, run_takeDeferred hd, ih hn2 (fun D' hm => ?_) ?_⟩⟩
    · obtain ⟨h1, h2⟩ := hD D' (by simp [hm])
      exact ⟨h1, (World.putObj_heap_other (by rintro rfl; exact hn1 hm)).trans h2⟩
    · intro w' hB hs hdk
      refine h w' (hstep.trans hB) (by rw [← hs]; simp) ?_
      intro k o hk ho hx
      have hk' : (w.heap.extract 0 b)[k]? = some o := hk
      rw [Array.getElem?_extract] at hk'
      split at hk'
      · rename_i hlt
        refine hdk k o ?_ ho hx
        show ((w.putObj D (.deferred none)).heap.extract 0 b)[k]? = some o
        rw [Array.getElem?_extract, if_pos (by simpa using hlt)]
        simp only [Nat.zero_add] at hk' ⊢
        exact (World.putObj_heap_other (by omega)).trans hk'
      · cases hk'

theorem ret_ofM {w : World} {f : FuncId} {fn : Func} {c : Code} {n : Nat} {args : List Value} {R : Value → World → Prop} (hf : P.funcs[f]? = some fn) (hb : fn.body = some c) (hN : fn.ntmps = n) (hle : Nat.ble args.length n = true) {rs : List ResultVar} (hr : fn.results = rs.toArray)
    (h : WC P ⟨n, none, w, none, true⟩ c (retQM P rs w R) (argFr 0 args) w) : Ret P f args.toArray w R := by
  refine (callsIn_wide (n := 0)).1 (callsIn_of_wp_marks (F := Fence.wide) hf hb trivial ?_)
  have hle' : args.length ≤ n := by simpa using hle
  refine wpIn_mono (h _ (args_hold (by rw [hN]) hle') good_start) ?_
  have key : ∀ (l' : Fr) (a' : Act) (w' : World), Holds ⟨n, none, w, none, true⟩ l' a' → Good ⟨n, none, w, none, true⟩ a' w' →
      (∀ w2, But [] w.heap.size w' w2 → w'.heap.size = w2.heap.size → ∃ vs, OutsAt P l' w2 rs vs ∧ R (tupleOf vs) w2) →
      LeavesInM Fence.wide 0 P fn a'.tmps (fun e w' => ∃ v, e = .returned v ∧ (DK none w w' ∧ w.heap.size ≤ w'.heap.size) ∧ R v w') a'.defers .returning w' := by
    intro l' a' w' hl' g q
    obtain ⟨Ds, e1, _, e3, e4⟩ := g.marks
    rw [e1]
    refine leaves_marks (b := w.heap.size) e3 (fun D hm => ⟨(e4 D hm).1, (e4 D hm).2.2⟩) fun w2 hB hs hdk => ?_
    obtain ⟨vs, ho, hR⟩ := q w2 hB hs
    refine ⟨_, outs_tmps hl' ho fn hr, _, rfl, ⟨?_, by rw [← hs]; exact g.size⟩, hR⟩
    intro k o hk hc hx
    have h1 := g.dk k o hk hc hx
    refine hdk k o ?_ hc hx
    show (w'.heap.extract 0 w.heap.size)[k]? = some o
    have hlt := (Array.getElem?_eq_some_iff.1 hk).1
    have hgs : w.heap.size ≤ w'.heap.size := g.size
    rw [Array.getElem?_extract, if_pos (by omega)]
    simpa using h1
  rintro e a' w' ⟨l', hl', g, q⟩
  cases e with
  | normal => exact key l' a' w' hl' g q
  | ret => exact key l' a' w' hl' g q
  | _ => exact q.elim

/-- How an iterator's body is left. -/
def seqQ {α : Type} (S : List α) (J Jx : List α → World → Prop) : Post
  | .normal, _, W' | .ret, _, W' => J S W' ∨ ∃ pre x rest, S = pre ++ x :: rest ∧ Jx (pre ++ [x]) W'
  | _, _, _ => False

theorem seq_of {α : Type} {w : World} {gf : FuncId} {fn : Func} {c : Code} {n : Nat} {lb : List Value} {encs : α → List Value} {FT : List Nat} {S : List α} {n0 : Nat} (hf : P.funcs[gf]? = some fn) (hb : fn.body = some c) (hN : fn.ntmps = n) (hle : Nat.ble (lb.length + 1) n = true) (hr : fn.results = #[])
    (h : ∀ (l : Nat) (J Jx : List α → World → Prop) (W : World), Below w.heap.size w W →
      (∀ pre W1 W2, J pre W1 → But FT W1.heap.size W1 W2 → J pre W2) → (∀ pre W1 W2, Jx pre W1 → But FT W1.heap.size W1 W2 → Jx pre W2) →
      (∀ pre x rest W1, S = pre ++ x :: rest → J pre W1 → YieldC P l (encs x) W1 fun b W' => Below n0 W1 W' ∧ if b then J (pre ++ [x]) W' else Jx (pre ++ [x]) W') →
      J [] W → WC P ⟨n, none, W, some l, false⟩ c (seqQ S J Jx) (argFr 0 (.func (.yield l) #[] #[] :: lb)) W) : SeqC P gf lb encs FT S n0 w := by
  intro l J Jx W hW hl hJ hJx hY h0
  refine (callsIn_wide (n := 0)).1 (callsIn_of_wp (F := Fence.wide) hf hb trivial ?_)
  have hle' : (.func (.yield l) #[] #[] :: lb).length ≤ n := by simpa using hle
  refine wpIn_mono (h l J Jx W hW hJ hJx hY h0 _ (args_hold (by rw [hN]) hle') (good_start (fun x hx => by cases hx; exact hl.2))) ?_
  rintro e a' w' ⟨l', hl', g, q⟩
  have hd : a'.defers = [] := by
    obtain ⟨Ds, h1, h2, _⟩ := g.marks
    rw [h1, h2 rfl]; rfl
  have ho : (results fn a'.tmps).run P w' = .ok (tupleOf []) w' := outs_tmps (rs := []) (vs := []) (l := l') hl' (show OutsAt P l' w' [] [] from trivial) fn hr
  cases e with
  | normal => exact ⟨hd, _, ho, _, rfl, g.dk, g.size, q⟩
  | ret => exact ⟨hd, _, ho, _, rfl, g.dk, g.size, q⟩
  | _ => exact q.elim

section
variable {N : Ev} {K : Fr → World → Prop} {Q : Post} {l : Fr} {w : World} {d : Nat} {U : TypeId} {pos : String} {aft : Array Edge} {g : Option (Nat × Bool)}
theorem roundIn_FW {ro : Option Nat} {n L : Nat} {f : FuncId} {tm : Array Value} {a b : Code} {W : World} {R : Ending → World → Prop} (h : RoundIn (FW none) n P L f tm a b W R) : RoundIn (FW ro) n P L f tm a b W R := by
  cases ro <;> exact h
/-- A call of the loop's own function. -/
theorem op_yield {fx : Operand} {L : Nat} {xs : List Operand} {vs : List Value} {ts : Array TypeId} {R : Bool → World → Prop} (hfx : evo l fx = some (.func (.yield L) #[] #[])) (hx : evl l xs = some vs) (hex : N.ex = some L) (hY : YieldC P L vs w R) (hN : Nat.blt d N.n = true)
    (k : ∀ b w', R b w' → K ((d, .bool b) :: l) w') : OpW P N ⟨some d, .call ⟨.value fx, xs.toArray, ts⟩, U, pos, aft, g⟩ K Q l w := by
  intro a ha hgd
  obtain ⟨fn, tm, asg, bd, hy, hR⟩ := hY
  refine ⟨fun _ _ => trivial, ?_⟩
  show Oper.uponIn (FW N.ro) 0 P _ a _ _ ((Oper.semAt N.ro a.eval _).run P w)
  have e := evl_eval ha hx
  have hrun : (execOp a.eval ⟨some d, .call ⟨.value fx, xs.toArray, ts⟩, U, pos, aft, g⟩).run P w = .ok (.round L fn tm asg bd) w := by
    simp [execOp, resolve, Deferred.ofValue, ha.eval hfx, invoke, e, hy]
  rw [semAt_nodef rfl, hrun, Oper.uponIn_round]
  refine ⟨(fun h => by simp [FW] at h), (roundIn_FW hR).mono ?_⟩
  rintro e w' ⟨b, rfl, hdk, hs, hRb⟩
  exact ⟨_, ha.put (by simpa [Nat.blt_eq] using hN) (.bool b), hgd.step rfl (by rw [hex]; exact hdk) hs, k b w' hRb⟩
end
end

/-! steps from world to world -/
theorem below_but {a u v : World} {FT : List Nat} {b : Nat} (T : Below a.heap.size a u) (h : But FT b u v) (hF : ∀ k ∈ FT, a.heap.size ≤ k) (hb : a.heap.size ≤ b) : Below a.heap.size a v := T.trans (h.below hF hb T.size)
theorem below_low {a u v : World} {n0 : Nat} (T : Below a.heap.size a u) (h : Below n0 u v) (hb : a.heap.size ≤ n0) : Below a.heap.size a v := T.trans (h.mono hb)
theorem blk_low {u v : World} {n0 x : Nat} {o : Obj} (h : u.heap[x]? = some o) (k : Below n0 u v) (hx : x < n0) : v.heap[x]? = some o := (k.block x hx).trans h
theorem blk_lt {w : World} {x : Nat} {o : Obj} (h : w.heap[x]? = some o) : x < w.heap.size := (Array.getElem?_eq_some_iff.1 h).1
theorem ge_nil {B : Nat} : ∀ k ∈ ([] : List Nat), B ≤ k := fun k h => by cases h
theorem ge_cons {B x : Nat} {xs : List Nat} (h : B ≤ x) (t : ∀ k ∈ xs, B ≤ k) : ∀ k ∈ x :: xs, B ≤ k := fun k hk => by
  rcases List.mem_cons.1 hk with rfl | hk
  · exact h
  · exact t k hk
theorem lt_nil {B : Nat} : ∀ k ∈ ([] : List Nat), k < B := fun k h => by cases h
theorem lt_cons {B x : Nat} {xs : List Nat} (h : x < B) (t : ∀ k ∈ xs, k < B) : ∀ k ∈ x :: xs, k < B := fun k hk => by
  rcases List.mem_cons.1 hk with rfl | hk
  · exact h
  · exact t k hk
theorem nin_nil {y : Nat} : y ∉ ([] : List Nat) := fun h => by cases h
theorem nin_cons {y x : Nat} {xs : List Nat} (h : y ≠ x) (t : y ∉ xs) : y ∉ x :: xs := fun hk => by
  rcases List.mem_cons.1 hk with rfl | hk
  · exact h rfl
  · exact t hk
theorem nin_ge {y B : Nat} {FT : List Nat} (hF : ∀ k ∈ FT, k < B) (h : B ≤ y) : y ∉ FT := fun hm => by have := hF y hm; omega
theorem but_own' {α : Type} {enc : α → List Value} {FT : List Nat} {b base e sz : Nat} {w w' : World} {v : Value} {xs : List α} (h : Own enc base e sz w v xs) (k : But FT b w w') (hF : ∀ x ∈ FT, some x ≠ v.ownBlock) : Own enc base e sz w' v xs := by
  refine ⟨h.1, ?_⟩
  rcases h.2 with h2 | ⟨g, cap, cur, hv, hb, hg, hr⟩
  · exact .inl h2
  · refine .inr ⟨g, cap, cur, hv, hb, k.same g _ hg (fun hm => hF g hm (by rw [hv]; rfl)) (.inl rfl), hr⟩
theorem rd_but {α : Type} {enc : α → List Value} {sz : Nat} {w w' : World} {A : Option Addr} {n : Nat} {xs : List α} {b : Nat} (h : Rd (Flat enc) sz w A n xs) (k : But [] b w w') : Rd (Flat enc) sz w' A n xs := by
  obtain ⟨x, off, hA, hc⟩ := h.rows
  refine ⟨h.len, h.bd, x, off, hA, fun i y hy => ?_⟩
  obtain ⟨cs, h1, h2, h3⟩ := hc i y hy
  refine ⟨cs, h1, h2, fun j v hj => ?_⟩
  have h4 := h3 j v hj
  unfold World.cell? at h4 ⊢
  cases hb : w.heap[x]? with
  | none => simp [hb] at h4
  | some o =>
    cases o with
    | cells c e f =>
      rw [k.same x _ hb (by simp) (.inl rfl)]
      simpa [hb] using h4
    | _ => simp [hb] at h4
theorem SeqC.ext {α : Type} {P : Program} {gf : Nat} {lb : List Value} {encs : α → List Value} {FT : List Nat} {S : List α} {n0 : Nat} {w W : World} (h : SeqC P gf lb encs FT S n0 w) (hb : Below w.heap.size w W) : SeqC P gf lb encs FT S n0 W :=
  fun l J Jx V hV hl hJ hJx hY h0 => h l J Jx V (below_step hb hV) ⟨Nat.le_trans hb.size hl.1, hl.2⟩ hJ hJx hY h0
theorem rows_own {α : Type} {enc : α → List Value} {base e sz : Nat} {w : World} {v : Value} {xs ys : List α} (h : Own enc base e sz w v xs) (e' : xs = ys) : Own enc base e sz w v ys := e' ▸ h
theorem But.put_ge {FT : List Nat} {b x : Nat} {w u v : World} (h : But FT b w u) (hP : Put u v x) (hx : w.heap.size ≤ x) : But FT b w v :=
  ⟨hP.os.trans h.os, hP.tape.trans h.tape, hP.output.trans h.output, by rw [hP.size]; exact h.size, fun k o hk hf hc => (hP.other k (by have := (Array.getElem?_eq_some_iff.1 hk).1; omega)).trans (h.same k o hk hf hc)⟩
theorem But.grow_ge {FT : List Nat} {b : Nat} {w u v : World} {r : Option Nat} (h : But FT b w u) (hg : u.grownBy v r) (hr : ∀ k, r = some k → w.heap.size ≤ k) : But FT b w v :=
  ⟨hg.os.trans h.os, hg.tape.trans h.tape, hg.output.trans h.output, Nat.le_trans h.size hg.size, fun k o hk hf hc => by
    have h1 := h.same k o hk hf hc
    have h2 := (Array.getElem?_eq_some_iff.1 hk).1
    exact (hg.block k (Array.getElem?_eq_some_iff.1 h1).1 (fun e => by have := hr k e.symm; omega)).trans h1⟩
/-- Nothing turns but one block, from c0 to c1. -/
structure SB (b : Nat) (c0 c1 : Obj) (w W : World) : Prop where
  but : But [b] w.heap.size w W
  or : w.heap[b]? = some c0 → W.heap[b]? = some c0 ∨ W.heap[b]? = some c1
  keep : w.heap[b]? = some c1 → W.heap[b]? = some c1
theorem SB.refl {b : Nat} {c0 c1 : Obj} {w : World} : SB b c0 c1 w w := ⟨But.refl, .inl, id⟩
theorem sr_sb (b : Nat) (c0 c1 : Obj) : SR (SB b c0 c1) :=
  ⟨fun _ => SB.refl, fun x y z h k => ⟨h.but.trans (k.but.mono (fun _ h => h) h.but.size), fun h0 => (h.or h0).elim k.or (fun h1 => .inr (k.keep h1)), fun h1 => k.keep (h.keep h1)⟩,
   fun w k W h => ⟨⟨h.but.os, h.but.tape, h.but.output, h.but.size, h.but.same⟩, h.or, h.keep⟩⟩
theorem SB.of_below {b : Nat} {c0 c1 : Obj} {w W : World} (h : Below w.heap.size w W) : SB b c0 c1 w W := ⟨But.of_below h, fun h0 => .inl (blk_ext h0 h), fun h1 => blk_ext h1 h⟩
theorem SB.of_put {b : Nat} {c0 c1 : Obj} {w W : World} (h : Put w W b) (hb : W.heap[b]? = some c1) : SB b c0 c1 w W := ⟨But.of_put h (by simp), fun _ => .inr hb, fun _ => hb⟩
theorem But.but_ge {FT FT' : List Nat} {b b' : Nat} {w u v : World} (h : But FT b w u) (k : But FT' b' u v) (hF : ∀ x ∈ FT', w.heap.size ≤ x) (hb : b ≤ b') : But FT b w v :=
  ⟨k.os.trans h.os, k.tape.trans h.tape, k.output.trans h.output, Nat.le_trans h.size k.size, fun i o hi hf hc => by
    have h1 := h.same i o hi hf hc
    have h2 := (Array.getElem?_eq_some_iff.1 hi).1
    exact k.same i o h1 (fun hm => by have := hF i hm; omega) (hc.imp id (fun hl => Nat.lt_of_lt_of_le hl hb))⟩
theorem rq_norm {α : Type} {n0 : Nat} {I : List α → World → Prop} {Ix : Exit → World → Prop} {pre : List α} {W W' : World} {l : Fr} (h1 : Below n0 W W') (h2 : I pre W') : roundQ n0 I Ix pre W .normal l W' := ⟨h1, h2⟩
theorem rq_ret {α : Type} {n0 : Nat} {I : List α → World → Prop} {Ix : Exit → World → Prop} {pre : List α} {W W' : World} {l : Fr} (h1 : Below n0 W W') (h2 : Ix .ret W') : roundQ n0 I Ix pre W .ret l W' := ⟨h1, h2⟩
theorem rq_exit {α : Type} {n0 : Nat} {I : List α → World → Prop} {Ix : Exit → World → Prop} {pre : List α} {W W' : World} {l : Fr} {id : Nat} (h1 : Below n0 W W') (h2 : Ix (.exit id) W') : roundQ n0 I Ix pre W (.exit id) l W' := ⟨h1, h2⟩
theorem seq_done {α : Type} {S : List α} {J Jx : List α → World → Prop} {l : Fr} {W : World} (h : J S W) : seqQ S J Jx .normal l W := .inl h
theorem seq_ret {α : Type} {S : List α} {J Jx : List α → World → Prop} {l : Fr} {W : World} {pre : List α} {x : α} {rest : List α} (hS : S = pre ++ x :: rest) (h : Jx (pre ++ [x]) W) : seqQ S J Jx .ret l W := .inr ⟨pre, x, rest, hS, h⟩
theorem seq_retd {α : Type} {S : List α} {J Jx : List α → World → Prop} {l : Fr} {W : World} (h : J S W) : seqQ S J Jx .ret l W := .inl h
end Go.Eng
