/- Lemmas for a law of the seat: what functions of the program do, each stated as a contract of its own (module AbO). -/
import Derived.Test.YtjagcoeihmhabaaAbN
set_option linter.unusedVariables false
set_option linter.unusedSimpArgs false
namespace Go.Ab
open Go.RowKit Go.Shelf Go.Proofs Go.Eng

/-! loops over functions -/
/-- What a call does in worlds of which 'c' holds. -/
def RunsL (c : World → Prop) (P : Program) (f : FuncId) (args : List AV) (H : List AO) (R : List AV → List AO → Prop) : Prop :=
  ∀ (e w : World) (m : Mem) (ρ : List Value) (φ : List Frag) (F : Frag) (vs : List Value), c w → RepL m ρ args vs → OsRep m ρ H φ → SH e w m (φ.flatten ++ F) →
    Ret P f vs.toArray w fun v w' => ∃ rs H' m' ρ' φ', R rs H' ∧ m.le m' ∧ (∀ (i : Nat) (h : Value), ρ[i]? = some h → ρ'[i]? = some h) ∧ H.length ≤ H'.length ∧ OsRep m' ρ' H' φ' ∧ SH e w' m' (φ'.flatten ++ F) ∧ ∃ us, RepL m' ρ' rs us ∧ v = tupleOf us

theorem args_conc {e w : World} {m : Mem} {ρ : List Value} {φ : List Frag} {F : Frag} {vs : List Value} {args : List AV} {H : List AO} (hv : RepL m ρ args vs) (ho : OsRep m ρ H φ) (hs : SH e w m (φ.flatten ++ F)) : Conc ⟨e, m, ρ, F⟩ ⟨argA 0 args, zipH 0 H, H.length⟩ (argFr 0 vs) w m ρ φ := by
  refine ⟨Mem.le_refl _, fun _ _ h => h, ho.nρ, ho.nφ, arg_rep hv, ?_, hs⟩
  intro i hd f hi hf
  have hil : i < H.length := by rw [← ho.nρ]; exact (List.getElem?_eq_some_iff.1 hi).1
  have hH : H[i]? = some (H[i]'hil) := List.getElem?_eq_getElem hil
  have := zipH_get (i := 0) hH
  rw [Nat.zero_add] at this
  show ORep m ρ (AH.get (zipH 0 H) i) hd f
  rw [this]
  exact ho.at_ i _ hd f hH hi hf
theorem outs_conc {P : Program} {X : Cx} {st : AS} {l : Fr} {w w' : World} {m m' : Mem} {ρ' : List Value} {φ' : List Frag} {rs : List ResultVar} {k : Nat} {R : List AV → List AO → Prop} (hc : Conc X st l w' m' ρ' φ') (hq : aretQ P rs k R .normal st) :
    ∃ vs, OutsAt P l w' rs vs ∧ ∃ rs' H' m'' ρ'' φ'', R rs' H' ∧ X.m.le m'' ∧ (∀ (i : Nat) (h : Value), X.ρ[i]? = some h → ρ''[i]? = some h) ∧ k ≤ H'.length ∧ OsRep m'' ρ'' H' φ'' ∧ SH X.e w' m'' (φ''.flatten ++ X.F) ∧ ∃ us, RepL m'' ρ'' rs' us ∧ tupleOf vs = tupleOf us := by
  obtain ⟨as', H', h1, rfl, hk, hR⟩ := hq
  obtain ⟨us, h2, h3⟩ := aouts hc h1
  refine ⟨us, h2, as', _, m', ρ', φ', hR, hc.mle, hc.pre, ?_, ⟨?_, ?_, ?_⟩, hc.sh, us, h3, rfl⟩
  · simpa using Nat.le_of_ble_eq_true hk
  · simpa using hc.nρ
  · simpa using hc.nφ
  · intro i o hd f hi hh hf
    rw [List.getElem?_map] at hi
    obtain ⟨j, hj, rfl⟩ := Option.map_eq_some_iff.1 hi
    have hil := (List.getElem?_eq_some_iff.1 hj).1
    rw [List.getElem?_range (by simpa using hil)] at hj
    cases hj
    exact hc.objs i hd f hh hf

theorem runs_wL {P : Program} {cw : World → Prop} {f : FuncId} {fn : Func} {c : Code} {n : Nat} {args : List AV} {H : List AO} {R : List AV → List AO → Prop} {rs : List ResultVar} (hf : P.funcs[f]? = some fn) (hN : fn.ntmps = n) (hb : fn.body = some c) (hr : fn.results = rs.toArray) (hle : Nat.ble args.length n = true)
    (h : ∀ (w0 : World) (X : Cx), cw w0 → X.ρ.length = H.length → AWC P ⟨n, none, w0, none, false⟩ X c (retW P X rs H.length R) ⟨argA 0 args, zipH 0 H, H.length⟩) : RunsL cw P f args H R := by
  intro e w m ρ φ F vs hcw hv ho hs
  have hl := hv.len
  refine ret_of hf hb hN (by rw [hl]; exact hle) hr ?_
  refine WC.mono ?_ (h w ⟨e, m, ρ, F⟩ hcw ho.nρ _ _ _ _ _ (args_conc hv ho hs))
  rintro ex l w' ⟨st, m', ρ', φ', hc', hq⟩
  cases ex with
  | normal => obtain ⟨st', h3, h4⟩ := hq; obtain ⟨m'', ρ'', φ'', h5⟩ := h3 _ _ _ _ _ hc'; exact outs_conc (w := w) (m := m) h5 h4
  | ret => obtain ⟨st', h3, h4⟩ := hq; obtain ⟨m'', ρ'', φ'', h5⟩ := h3 _ _ _ _ _ hc'; exact outs_conc (w := w) (m := m) h5 h4
  | _ => exact hq.elim

/-- Control blocks alone turn. -/
theorem SH.but {e w w' : World} {m : Mem} {f : Frag} {b : Nat} (h : SH e w m f) (hB : But [] b w w') : SH e w' m f :=
  ⟨hB.os.trans h.os, hB.tape.trans h.tape, hB.output.trans h.output, fun x o hx => hB.same x o (h.fz _ _ hx) (by simp) (.inl (h.mctl _ _ hx)), fun p hp => hB.same _ _ (h.own p hp) (by simp) (.inl (h.noctl p hp)), h.nd, h.dis, h.noctl, h.mctl⟩
theorem Conc.but {X : Cx} {st : AS} {fr : Fr} {w w' : World} {m : Mem} {ρ : List Value} {φ : List Frag} {b : Nat} (h : Conc X st fr w m ρ φ) (hB : But [] b w w') : Conc X st fr w' m ρ φ :=
  ⟨h.mle, h.pre, h.nρ, h.nφ, h.slots, h.objs, h.sh.but hB⟩

/-- A function with loops over functions in it. -/
theorem runs_wM {P : Program} {f : FuncId} {fn : Func} {c : Code} {n : Nat} {args : List AV} {H : List AO} {R : List AV → List AO → Prop} {rs : List ResultVar} (hf : P.funcs[f]? = some fn) (hN : fn.ntmps = n) (hb : fn.body = some c) (hr : fn.results = rs.toArray) (hle : Nat.ble args.length n = true)
    (h : ∀ (w0 : World) (X : Cx), X.ρ.length = H.length → AWC P ⟨n, none, w0, none, true⟩ X c (retW P X rs H.length R) ⟨argA 0 args, zipH 0 H, H.length⟩) : Runs P f args H R := by
  intro e w m ρ φ F vs hv ho hs
  have hl := hv.len
  refine ret_ofM hf hb hN (by rw [hl]; exact hle) hr ?_
  refine WC.mono ?_ (h w ⟨e, m, ρ, F⟩ ho.nρ _ _ _ _ _ (args_conc hv ho hs))
  rintro ex l w' ⟨st, m', ρ', φ', hc', hq⟩
  cases ex with
  | normal => obtain ⟨st', h3, h4⟩ := hq; obtain ⟨m'', ρ'', φ'', h5⟩ := h3 _ _ _ _ _ hc'; exact fun w2 hB _ => outs_conc (w := w) (m := m) (h5.but hB) h4
  | ret => obtain ⟨st', h3, h4⟩ := hq; obtain ⟨m'', ρ'', φ'', h5⟩ := h3 _ _ _ _ _ hc'; exact fun w2 hB _ => outs_conc (w := w) (m := m) (h5.but hB) h4
  | _ => exact hq.elim

/-- What a call of the loop's own function does. -/
def YieldsA (P : Program) (L : Nat) (rec : Obj) (args : List AV) (g g' : Mem → Frag → Prop) : Prop :=
  ∀ (e w : World) (m : Mem) (f F : Frag) (vs : List Value), RepL m [] args vs → w.heap[L]? = some rec → (∃ m0, m0.le m ∧ g m0 f) → SH e w m (f ++ F) →
    YieldAt (FW none) 0 P L vs.toArray w fun en w' => en = .returned (.bool true) ∧ DK none w w' ∧ w.heap.size ≤ w'.heap.size ∧ ∃ m' f', m.le m' ∧ g' m' f' ∧ SH e w' m' (f' ++ F)

section
variable {P : Program} {N : Ev} {X : Cx} {Q : APost} {st : AS}
variable {d : Nat} {T U T' : TypeId} {pos : String} {aft : Array Edge} {g : Option (Nat × Bool)} {x y : Operand}
theorem aop_yield {fx : Operand} {L i : Nat} {rec : Obj} {xs : List Operand} {as' : List AV} {ts : Array TypeId} {p p' : Mem → Frag → Prop} {K : AS → Prop} (hfx : aev st.l fx = some (.yld L)) (hx : xs.map (aev st.l) = as'.map some) (hcl : renL [] as' = as') (hL : N.w0.heap[L]? = some rec) (hrec : ctl rec = true) (hex : N.ex = none) (hH : st.H.get i = .guest p) (hi : Nat.blt i st.n = true) (hY : YieldsA P L rec as' p p')
    (k : K ⟨(d, .bool true) :: st.l, (i, .guest p') :: st.H, st.n⟩) (hN : Nat.blt d N.n = true := by rfl) : AOp P N X ⟨some d, .call ⟨.value fx, xs.toArray, ts⟩, U, pos, aft, g⟩ K st := by
  intro Q fr w m ρ φ hc a ha hgd
  obtain ⟨fv, h1, h2⟩ := hc.ev hfx
  simp only [RepA] at h2
  subst h2
  obtain ⟨vs, h3, h4⟩ := hc.evl hx
  have h4' : RepL m [] as' vs := by
    refine renL_fwd (σ := []) (ρ := ρ) (fun i j u hi _ => by simp at hi) as' ?_
    rw [hcl]; exact h4
  have hin : i < st.n := by simpa using hi
  obtain ⟨h, hh⟩ : ∃ h, ρ[i]? = some h := ⟨_, List.getElem?_eq_getElem (by rw [hc.nρ]; exact hin)⟩
  obtain ⟨f, hf⟩ : ∃ f, φ[i]? = some f := ⟨_, List.getElem?_eq_getElem (by rw [hc.nφ]; exact hin)⟩
  have ho := hc.objs i h f hh hf
  rw [hH] at ho
  have hLw : w.heap[L]? = some rec := hgd.dk L rec hL hrec (by rw [hex]; simp)
  obtain ⟨fn, tm, asg, bd, hy, hR⟩ := hY X.e w m f _ vs h4' hLw ho (hc.front hf)
  refine ⟨fun _ _ => trivial, ?_⟩
  show Oper.uponIn (FW N.ro) 0 P _ a _ _ ((Oper.semAt N.ro a.eval _).run P w)
  have e := evl_eval ha h3
  have hrun : (execOp a.eval ⟨some d, .call ⟨.value fx, xs.toArray, ts⟩, U, pos, aft, g⟩).run P w = .ok (.round L fn tm asg bd) w := by
    simp [execOp, resolve, Deferred.ofValue, ha.eval h1, invoke, e, hy]
  rw [semAt_nodef rfl, hrun, Oper.uponIn_round]
  refine ⟨(fun h => by simp [FW] at h), (roundIn_FW hR).mono ?_⟩
  rintro en w' ⟨rfl, hdk, hsz, m', f', hm, hg', hs'⟩
  refine ⟨_, ha.put (by simpa [Nat.blt_eq] using hN) (.bool true), hgd.step rfl (by rw [hex]; exact hdk) hsz, ⟨_, m', ρ, φ.set i f', ?_, k⟩⟩
  have hc1 : Conc X (st.put d (.bool true)) ((d, .bool true) :: fr) w m ρ φ := hc.put (by simp only [RepA])
  refine ⟨hc1.mle.trans hm, hc1.pre, hc1.nρ, by rw [List.length_set]; exact hc1.nφ, fun t b hb => let ⟨v, q1, q2⟩ := hc1.slots t b hb; ⟨v, q1, RepA.mono hm (fun _ _ h => h) b q2⟩, ?_, ?_⟩
  · intro j hd fj hj hfj
    show ORep m' ρ (AH.get ((i, .guest p') :: st.H) j) hd fj
    rw [AH.get_cons]
    split
    · rename_i ee
      subst ee
      rw [List.getElem?_set_self (by rw [hc.nφ]; exact hin)] at hfj
      cases hfj
      exact ⟨m', Mem.le_refl _, hg'⟩
    · rename_i ee
      rw [List.getElem?_set_ne (fun e => ee e)] at hfj
      exact (hc.objs j hd fj hj hfj).mono hm (fun _ _ h => h)
  · refine hs'.perm ?_
    rw [← List.append_assoc]
    exact List.Perm.append_right _ (frag_split hf f').2.symm

/-- A frame with the loop's variables. -/
def zipA : AFr → List Nat → List AV → AFr
  | l, p :: ps, v :: vs => zipA ((p, v) :: l) ps vs
  | l, _, _ => l
theorem zip_rep {m : Mem} {ρ : List Value} : ∀ {ps : List Nat} {as' : List AV} {vs : List Value} {l : AFr} {fr : Fr}, (∀ t a, l.look t = some a → ∃ v, fr.look t = some v ∧ RepA m ρ a v) → RepL m ρ as' vs → ∀ t a, (zipA l ps as').look t = some a → ∃ v, (zipFr fr ps vs).look t = some v ∧ RepA m ρ a v := by
  intro ps
  induction ps with
  | nil => intro as' vs l fr h _ t a ht; simp only [zipA] at ht; simp only [zipFr]; exact h t a ht
  | cons p ps ih =>
    intro as' vs l fr h hv t a ht
    cases as' with
    | nil => cases vs with
      | nil => simp only [zipA] at ht; simp only [zipFr]; exact h t a ht
      | cons => simp [RepL] at hv
    | cons b as' => cases vs with
      | nil => simp [RepL] at hv
      | cons v vs =>
        simp only [RepL] at hv
        simp only [zipA] at ht
        simp only [zipFr]
        refine ih ?_ hv.2 t a ht
        intro q c hq
        rw [AFr.look_cons] at hq
        rw [Fr.look_cons]
        split
        · rename_i e; rw [if_pos e] at hq; cases hq; exact ⟨v, rfl, hv.1⟩
        · rename_i e; rw [if_neg e] at hq; exact h q c hq

def rangeQ (X : Cx) (H : AH) (n : Nat) : APost
  | .normal, st => Wk X st ⟨[], H, n⟩
  | _, _ => False
/-- The state of the rounds, xs the iterator's caller sees it. -/
def gst (m : Mem) (ρk : List Value) (H : AH) (n : Nat) : Mem → Frag → Prop := fun m1 f => m.le m1 ∧ ∃ (ρ1 : List Value) (φ1 : List Frag), (∀ (i : Nat) (h : Value), ρk[i]? = some h → ρ1[i]? = some h) ∧ ρ1.length = n ∧ φ1.length = n ∧
  (∀ (i : Nat) (h : Value) (f : Frag), ρ1[i]? = some h → φ1[i]? = some f → ORep m1 ρ1 (H.get i) h f) ∧ f = φ1.flatten

theorem closed_at {σ : List Nat} {t : Nat} {a : AV} : ∀ {l : AFr}, l.map (fun p => renA σ p.2) = l.map (·.2) → l.look t = some a → renA σ a = a := by
  intro l
  induction l with
  | nil => intro _ h; simp [AFr.look] at h
  | cons p r ih =>
    intro hcl ht
    obtain ⟨t', b⟩ := p
    rw [AFr.look_cons] at ht
    simp only [List.map_cons, List.cons.injEq] at hcl
    split at ht
    · cases ht; exact hcl.1
    · exact ih hcl.2 ht
theorem awc_rangeF {σ α : Type} {gx : Operand} {ps : List Nat} {assign body : Code} {gf : Nat} {caps : List AV} (k : Nat) (q : σ → α → Option σ) (enc : α → List AV) (l : AFr) (H : σ → AH) (n : Nat) {s0 s1 : σ}
    (hro : N.ro = none) (hmr : N.mr = true) (hg : aev l gx = some (.fn gf [] caps)) (hE : Enters P gf) (hcaps : renL [] caps = caps) (hpn : (ps.all fun p => Nat.blt p N.n) = true) (hps : ∀ x, Nat.beq (enc x).length ps.length = true)
    (hk : Nat.ble k n = true) (hkX : Nat.ble X.ρ.length k = true) (hcl : l.map (fun p => renA (List.range k) p.2) = l.map (·.2))
    (hit : ∀ (L : Nat) (rec : Obj) (G : σ → Mem → Frag → Prop), ctl rec = true → (∀ s x s', q s x = some s' → YieldsA P L rec (enc x) (G s) (G s')) → RunsL (fun w => w.heap[L]? = some rec) P gf (.yld L :: caps) [.guest (G s0)] fun rs H' => rs = [] ∧ H' = [.guest (G s1)])
    (hbody : ∀ (w0 : World) (L : Nat) (X : Cx), X.ρ.length = k → ∀ s x s', q s x = some s' → AWC P ⟨N.n, some L, w0, none, false⟩ X assign (fun e st1 => e = .normal ∧ ∀ w0 : World, AWC P ⟨N.n, some L, w0, none, false⟩ X body (rangeQ X (H s') n) st1) ⟨zipA l ps (enc x), H s, n⟩)
    (hdone : Q .normal ⟨l, H s1, n⟩) : AWC P N X (.rangeFunc gx ps.toArray assign body) Q ⟨l, H s0, n⟩ := by
  intro fr w m ρ φ hc
  have hk' := Nat.le_of_ble_eq_true hk
  have hkX' := Nat.le_of_ble_eq_true hkX
  have hnρ : ρ.length = n := hc.nρ
  have hnφ : φ.length = n := hc.nφ
  obtain ⟨ρk, hρk⟩ : ∃ ρk, ρk = ρ.take k := ⟨_, rfl⟩
  have hρkl : ρk.length = k := by rw [hρk, List.length_take]; omega
  have hρkp : ∀ (i : Nat) (h : Value), ρk[i]? = some h → ρ[i]? = some h := by
    intro i h hi
    rw [hρk, List.getElem?_take] at hi
    split at hi
    · exact hi
    · cases hi
  have hsl : ∀ t a, l.look t = some a → ∃ v, fr.look t = some v ∧ RepA m ρk a v := by
    intro t a ht
    obtain ⟨v, h1, h2⟩ := hc.slots t a ht
    refine ⟨v, h1, ren_fwd (σ := List.range k) (ρ := ρ) ?_ a ?_⟩
    · intro i j u hi hj
      have hil := (List.getElem?_eq_some_iff.1 hi).1
      rw [List.getElem?_range (by simpa using hil)] at hi
      cases hi
      rw [hρk, List.getElem?_take, if_pos (by simpa using hil)]
      exact hj
    · have := closed_at hcl ht
      rw [this]; exact h2
  obtain ⟨gv, hgv, hgr⟩ := hc.ev hg
  simp only [RepA] at hgr
  obtain ⟨us, ws, rfl, hus, hws⟩ := hgr
  have hus' : us = [] := by
    cases us with
    | nil => rfl
    | cons => simp [RepL] at hus
  subst hus'
  have hws' : RepL m [] caps ws := by
    refine renL_fwd (σ := []) (ρ := ρ) (fun i j u hi _ => by simp at hi) caps ?_
    rw [hcaps]; exact hws
  intro a ha hgd
  rw [hro]
  refine wpIn_rangeFunc ?_
  intro fn hfn
  obtain ⟨rec, hrec⟩ : ∃ rec : LoopState → Option Code → Loop, rec = fun st pe => { state := st, pending := pe, fn, tmps := a.tmps, params := ps.toArray, assign, body, defers := w.heap.size } := ⟨_, rfl⟩
  obtain ⟨W1, hW1⟩ : ∃ W1, (w.alloc (.deferred (some []))).alloc (.loop (rec .ready none)) = W1 := ⟨_, rfl⟩
  obtain ⟨L, hL⟩ : ∃ L, L = w.heap.size + 1 := ⟨_, rfl⟩
  have hL1 : W1.heap[L]? = some (.loop (rec .ready none)) := by
    rw [← hW1, hL]; have := World.alloc_heap_new (w.alloc (.deferred (some []))) (.loop (rec .ready none)); rwa [World.size_alloc] at this
  have hK1 : W1.heap[w.heap.size]? = some (.deferred (some [])) := by
    rw [← hW1]; exact (Below.heap_alloc _ _ _ (by simp)).trans (World.alloc_heap_new w _)
  have hb1 : Below w.heap.size w W1 := by
    rw [← hW1]; exact (((Below.refl _ w).alloc (Nat.le_refl _) _).alloc (by simp) _)
  have hs1 : W1.heap.size = w.heap.size + 2 := by rw [← hW1]; simp
  have hwL : w.heap.size ≤ L := by omega
  -- the rounds
  obtain ⟨G, hG⟩ : ∃ G : σ → Mem → Frag → Prop, G = fun s => gst m ρk (H s) n := ⟨_, rfl⟩
  have hyield : ∀ s x s', q s x = some s' → YieldsA P L (.loop (rec .ready none)) (enc x) (G s) (G s') := by
    intro s x s' hq e V m1 f F vs hvs hl ⟨m0, hm0, hg0⟩ hsh
    rw [hG] at hg0
    obtain ⟨hm2, ρ1, φ1, hp1, hn1, hn2, ho1, rfl⟩ := hg0
    have hy := run_yield (P := P) (args := vs.toArray) hl (by
      rw [hrec]
      have h1 := Nat.eq_of_beq_eq_true (hps x)
      have h2 := hvs.len
      simp only [List.size_toArray]
      omega)
    rw [hrec] at hy
    have hcb : Conc ⟨e, m1, ρk, F⟩ ⟨zipA l ps (enc x), H s, n⟩ (zipFr fr ps vs) V m1 ρ1 φ1 := by
      refine ⟨Mem.le_refl _, hp1, hn1, hn2, zip_rep (fun t a ht => ?_) (RepL.mono (Mem.le_refl _) (fun i h hi => by simp at hi) _ hvs), fun i h f h1 h2 => (ho1 i h f h1 h2).mono hm0 (fun _ _ h => h), hsh⟩
      obtain ⟨v, h1, h2⟩ := hsl t a ht
      exact ⟨v, h1, RepA.mono (hm2.trans hm0) hp1 a h2⟩
    have hst := hbody V L ⟨e, m1, ρk, F⟩ hρkl s x s' hq _ _ _ _ _ hcb { tmps := (ps.toArray.zip vs.toArray).foldl (fun t (p, v) => t.setIfInBounds p v) a.tmps, defers := [] } (by
        have := zip_hold (N := ⟨N.n, some L, V, none, false⟩) (ps := ps) (vs := vs) (l := fr) (tm := a.tmps) (ds := []) hpn ⟨ha.size, ha.slot⟩
        simpa using this)
      ⟨DK.refl, Nat.le_refl _, (fun _ h => by cases h), ⟨[], rfl, fun _ => rfl, List.nodup_nil, fun D h => by cases h⟩, fun l0 h0 => by cases h0; exact ⟨by simp, _, hl⟩⟩
    refine ⟨fn, _, assign, body, hy, roundIn_of_wpIn (F := FW none) hfn (wpIn_mono hst ?_)⟩
    rintro ex a1 V1 ⟨l1, hl1, g1, st1, m3, ρ3, φ3, hc3, rfl, q1⟩
    have hr1 : V1.heap[L]? = some (.loop (rec .ready none)) := g1.dk L _ hl rfl (by simp)
    have hbr := run_beginRound (P := P) hr1 (by rw [hrec])
    obtain ⟨V2, hV2⟩ : ∃ V2, V1.putObj L (.loop { rec .ready none with state := .busy }) = V2 := ⟨_, rfl⟩
    rw [hV2] at hbr
    have hlt1 : L < V1.heap.size := (Array.getElem?_eq_some_iff.1 hr1).1
    have hr2 : V2.heap[L]? = some (.loop { rec .ready none with state := .busy }) := by rw [← hV2]; exact World.putObj_heap_same hlt1
    have hs2 : V1.heap.size = V2.heap.size := by rw [← hV2]; simp
    have hd1 : a1.defers = [] := by
      obtain ⟨Ds, e1, e2, _⟩ := g1.marks
      rw [e1, e2 rfl]; rfl
    have hB12 : But [] 0 V1 V2 := by rw [← hV2]; exact but_putObj (Nat.zero_le _) hr1 rfl
    refine ⟨V2, hbr, wpIn_mono (q1 V2 _ _ _ _ _ (hc3.but hB12) a1 ⟨hl1.size, hl1.slot⟩
      ⟨DK.refl, Nat.le_refl _, (fun _ h => by cases h), ⟨[], hd1, fun _ => rfl, List.nodup_nil, fun D h => by cases h⟩, fun l0 h0 => by cases h0; exact ⟨by simp, _, hr2⟩⟩) ?_⟩
    have hdk12 : DK (some L) V1 V2 := by rw [← hV2]; exact dk_putObj
    rintro ex a3 V3 ⟨l3, hl3, g3, st3, m4, ρ4, φ4, hc4, q3⟩
    cases ex with
    | normal =>
      obtain ⟨m5, ρ5, φ5, hc5⟩ := q3 _ _ _ _ _ hc4
      have hr3 : V3.heap[L]? = some (.loop { rec .ready none with state := .busy }) := g3.dk L _ hr2 rfl (by simp)
      have hlt3 : L < V3.heap.size := (Array.getElem?_eq_some_iff.1 hr3).1
      have hend := run_endRound (P := P) none hr3
      have h13 : V.heap.size ≤ V1.heap.size := g1.size
      have h23 : V2.heap.size ≤ V3.heap.size := g3.size
      have hB34 : ∀ o', But [] 0 V3 (V3.putObj L o') := fun o' => but_putObj (Nat.zero_le _) hr3 rfl
      refine ⟨_, _, hend, rfl, ?_, ?_, ?_⟩
      · intro k' o hk1 hk2 hk3
        by_cases e : k' = L
        · subst e
          rw [hl] at hk1; cases hk1
          rw [World.putObj_heap_same hlt3, hrec]
          rfl
        · refine (World.putObj_heap_other e).trans ?_
          exact g3.dk k' o (hdk12 k' o (g1.dk k' o hk1 hk2 (by simp)) hk2 (by intro e'; exact e (Option.some.inj e').symm)) hk2 (by simp)
      · simp; omega
      · refine ⟨m5, φ5.flatten, hc5.mle, ?_, (hc5.but (hB34 _)).sh⟩
        rw [hG]
        exact ⟨(hm2.trans hm0).trans hc5.mle, ρ5, φ5, hc5.pre, hc5.nρ, hc5.nφ, hc5.objs, rfl⟩
    | _ => exact q3.elim
  have hsh1 : SH X.e W1 m (φ.flatten ++ X.F) := hc.sh.ext hb1
  have hG0 : G s0 m φ.flatten := by
    rw [hG]
    exact ⟨Mem.le_refl _, ρ, φ, hρkp, hnρ, hnφ, hc.objs, rfl⟩
  have hcall := hit L (.loop (rec .ready none)) G rfl hyield X.e W1 m [undef] [φ.flatten] X.F (.func (.yield L) #[] #[] :: ws) hL1
    (by simp only [RepL, RepA]; exact ⟨trivial, RepL.mono (Mem.le_refl _) (fun i h hi => by simp at hi) _ hws'⟩)
    ⟨rfl, rfl, fun i o h f hi hh hf => by
      cases i with
      | zero => simp at hi hf; subst hi hf; exact ⟨m, Mem.le_refl _, hG0⟩
      | succ i => simp at hi⟩
    (by simpa using hsh1)
  refine ⟨L, [Eng.mark w.heap.size], W1, { target := .fn (.func gf) ws.toArray, args := #[.func (.yield L) #[] #[]] }, W1, gf, (.func (.yield L) #[] #[] :: ws).toArray, W1, ?_, ?_, ?_, ?_, (fun h => by simp [FW] at h), ?_⟩
  · rw [← hW1, hrec, hL]; exact run_enterLoop_outer _ _ _ _ _
  · simp only [resolve, ha.eval hgv]
    simp [go_sem]
  · intro f' hf'; trivial
  · have he := hE (#[.func (.yield L) #[] #[]] ++ ws.toArray) W1
    simp only [invoke]
    have e2 : (#[Value.func (.yield L) #[] #[]] ++ ws.toArray : Array Value) = (.func (.yield L) #[] #[] :: ws).toArray := by simp
    rw [e2] at he
    simpa [go_sem, e2] using he
  · have hholds : Holds N fr { a with defers := [Eng.mark w.heap.size] ++ a.defers } := ⟨ha.size, ha.slot⟩
    refine CallsIn.mono (calls_FW hcall) ?_
    rintro e W ⟨v, rfl, ⟨hdk, hsz⟩, rs, H', m', ρ', φ', ⟨rfl, rfl⟩, hm', _, _, hos, hshW, _, _, _⟩
    have hl : W.heap[L]? = some (.loop (rec .ready none)) := hdk L _ hL1 rfl (by simp)
    have h1 := run_endLoop (P := P) hl (by rw [hrec]; simp)
    have hstep : DK N.ex w (W.putObj L (.loop { rec .ready none with state := .exhausted })) := by
      intro k' o hk1 hc1 hx
      have hlt : k' < w.heap.size := (Array.getElem?_eq_some_iff.1 hk1).1
      have hk2 : W1.heap[k']? = some o := (hb1.block k' hlt).trans hk1
      have hk3 := hdk k' o hk2 hc1 (by simp)
      exact (World.putObj_heap_other (by omega)).trans hk3
    have hgw := hgd.step (a' := a) rfl hstep (by simp; omega)
    obtain ⟨Ds, d1, d2, d3, d4⟩ := hgw.marks
    have hD : W.heap[w.heap.size]? = some (.deferred (some [])) := hdk _ _ hK1 rfl (by simp)
    have hDn : w.heap.size ∉ Ds := by
      intro hm
      obtain ⟨Ds', e1, _, _, e4⟩ := hgd.marks
      have : Ds = Ds' := by
        have := d1.symm.trans e1
        have hinj : ∀ x y, Eng.mark x = Eng.mark y → x = y := by intro x y h; simpa [Eng.mark] using h
        exact (List.map_inj_right hinj).1 this
      subst this
      have := (Array.getElem?_eq_some_iff.1 (e4 _ hm).2.2).1
      omega
    have hgood : Eng.Good N { a with defers := [Eng.mark w.heap.size] ++ a.defers } (W.putObj L (.loop { rec .ready none with state := .exhausted })) := by
      refine ⟨hgw.dk, hgw.size, hgw.exlt, ⟨w.heap.size :: Ds, by simp [d1], (fun h => by rw [hmr] at h; cases h), List.nodup_cons.2 ⟨hDn, d3⟩, fun D hm => ?_⟩, hgw.rnd⟩
      rcases List.mem_cons.1 hm with rfl | hm
      · refine ⟨hgd.size, fun e => ?_, (World.putObj_heap_other (by omega)).trans hD⟩
        have := hgd.exlt _ e
        have := hgd.size
        omega
      · exact d4 D hm
    refine ⟨none, _, by rw [h1, hrec], fr, hholds, (by simpa [hrec] using hgood), ?_⟩
    -- what holds behind the loop
    obtain ⟨h, hh⟩ : ∃ h, ρ'[0]? = some h := ⟨_, List.getElem?_eq_getElem (by rw [hos.nρ]; exact Nat.one_pos)⟩
    obtain ⟨f, hf⟩ : ∃ f, φ'[0]? = some f := ⟨_, List.getElem?_eq_getElem (by rw [hos.nφ]; exact Nat.one_pos)⟩
    have hφ' : φ' = [f] := by
      have := hos.nφ
      match φ', this, hf with
      | [f'], _, hf => simp at hf; rw [hf]
    obtain ⟨m0, hm0, hg1⟩ := hos.at_ 0 _ h f rfl hh hf
    rw [hG] at hg1
    obtain ⟨hm2, ρ1, φ1, hp1, hn1, hn2, ho1, rfl⟩ := hg1
    subst hφ'
    refine ⟨_, m', ρ1, φ1, ?_, hdone⟩
    have hBL : But [] 0 W (W.putObj L (.loop { rec .ready none with state := .exhausted })) := but_putObj (Nat.zero_le _) hl rfl
    refine ⟨hc.mle.trans hm', fun i h hi => hp1 i h ?_, hn1, hn2, fun t a ht => ?_, fun i h f h1 h2 => (ho1 i h f h1 h2).mono hm0 (fun _ _ h => h), ?_⟩
    · have hi1 := (List.getElem?_eq_some_iff.1 hi).1
      rw [hρk, List.getElem?_take, if_pos (by omega)]
      exact hc.pre i h hi
    · obtain ⟨v, g1, g2⟩ := hsl t a ht
      exact ⟨v, g1, RepA.mono hm' hp1 a g2⟩
    · have := (hshW.but hBL)
      simpa [hrec] using this
end
theorem ranged {P : Program} {n L : Nat} {X : Cx} {body : Code} {Q : APost} {st : AS} (h : ∀ w0 : World, AWC P ⟨n, some L, w0, none, false⟩ X body Q st) : (fun (e : Exit) (st1 : AS) => e = .normal ∧ ∀ w0 : World, AWC P ⟨n, some L, w0, none, false⟩ X body Q st1) .normal st := ⟨rfl, h⟩
end Go.Ab
