/- Lemmas for a law of the seat: what functions of the program do, each stated as a contract of its own (module AbI). -/
import Derived.Test.YtjagcoeihmhabaaAbH
set_option linter.unusedVariables false
set_option linter.unusedSimpArgs false
namespace Go.Ab
open Go.RowKit Go.Shelf Go.Proofs Go.Eng

/-! the end of a function -/
def retW (P : Program) (X : Cx) (rs : List ResultVar) (k : Nat) (R : List AV → List AO → Prop) : APost
  | .normal, st | .ret, st => ∃ st', Wk X st st' ∧ aretQ P rs k R .normal st'
  | _, _ => False
theorem runs_w {P : Program} {f : FuncId} {fn : Func} {c : Code} {n : Nat} {args : List AV} {H : List AO} {R : List AV → List AO → Prop} {rs : List ResultVar} (hf : P.funcs[f]? = some fn) (hN : fn.ntmps = n) (hb : fn.body = some c) (hr : fn.results = rs.toArray) (hle : Nat.ble args.length n = true)
    (h : ∀ (w0 : World) (X : Cx), X.ρ.length = H.length → AWC P ⟨n, none, w0, none, false⟩ X c (retW P X rs H.length R) ⟨argA 0 args, zipH 0 H, H.length⟩) : Runs P f args H R := by
  refine runs_of hf hN hb hr hle fun w0 X hX fr w m ρ φ hc => WC.mono ?_ (h w0 X hX fr w m ρ φ hc)
  rintro e l w ⟨st, m, ρ, φ, h1, h2⟩
  cases e with
  | normal => obtain ⟨st', h3, h4⟩ := h2; obtain ⟨m', ρ', φ', h5⟩ := h3 _ _ _ _ _ h1; exact ⟨st', m', ρ', φ', h5, h4⟩
  | ret => obtain ⟨st', h3, h4⟩ := h2; obtain ⟨m', ρ', φ', h5⟩ := h3 _ _ _ _ _ h1; exact ⟨st', m', ρ', φ', h5, h4⟩
  | _ => exact h2.elim
/-- A function that owns nothing at its end. -/
theorem ret_p {P : Program} {X : Cx} {rs : List ResultVar} {st : AS} {as' r : List AV} (l' : AFr) (d : Nat) (hX : X.ρ.length = 0) (hs : wkS st.l st.H [] d l') (ho : AOuts P l' rs as') (hr : as' = r := by rfl) : retW P X rs 0 (fun q H' => q = r ∧ H' = []) .ret st :=
  ⟨⟨l', [], 0⟩, wk_of hX [] d rfl (by rfl) hs trivial, as', _, ho, rfl, rfl, hr, rfl⟩
theorem ret_q {P : Program} {X : Cx} {rs : List ResultVar} {st : AS} {as' r : List AV} {l' : AFr} (h : Wk X st ⟨l', [], 0⟩) (hr : as' = r) (ho : AOuts P l' rs as') : retW P X rs 0 (fun q H' => q = r ∧ H' = []) .ret st :=
  ⟨⟨l', [], 0⟩, h, as', _, ho, rfl, rfl, hr, rfl⟩
theorem retW_norm {P : Program} {X : Cx} {rs : List ResultVar} {k : Nat} {R : List AV → List AO → Prop} {st : AS} (h : retW P X rs k R .ret st) : retW P X rs k R .normal st := h

/-! regions whose order is drawn, or whose operations are guarded -/
abbrev TT := Bool × AV
def phi (e : World) (m : Mem) (ρ : List Value) (f : Frag) (T : TT) : VP := fun v W => (T.1 = true → ∃ m', m.le m' ∧ SH e W m' f ∧ RepA m' ρ T.2 v) ∧ (T.1 = false → v = undef)
def dstAt (ops : List Oper) (j : Nat) : Nat := match ops[j]? with
  | some o => o.dst.getD 0
  | none => 0
def ttAt (Ts : List TT) (j : Nat) : TT := match Ts[j]? with
  | some T => T
  | none => (false, .bad)
def allT (Ts : List TT) : List Nat → Prop
  | [] => True
  | j :: r => (ttAt Ts j).1 = true ∧ allT Ts r
theorem allT_of {Ts : List TT} : ∀ {js : List Nat}, allT Ts js → ∀ j ∈ js, (ttAt Ts j).1 = true := by
  intro js
  induction js with
  | nil => intro _ j h; simp at h
  | cons a r ih =>
    intro h j hj
    rcases List.mem_cons.1 hj with rfl | hj
    · exact h.1
    · exact ih h.2 j hj
/-- The frame with what is asked about. -/
def depF (ops : List Oper) (Ts : List TT) : List Nat → AFr → AFr
  | [], l => l
  | j :: r, l => depF ops Ts r ((dstAt ops j, (ttAt Ts j).2) :: l)
def keepF (l : AFr) : List Nat → AFr
  | [] => []
  | t :: r => (t, match l.look t with
    | some a => a
    | none => .bad) :: keepF l r

/-- What holds of a frame behind the values asked about. -/
inductive DF (ops : List Oper) (Φ : Nat → VP) (W : World) : List Nat → Fr → Fr → Prop
  | nil {l : Fr} : DF ops Φ W [] l l
  | cons {j : Nat} {r : List Nat} {l l' : Fr} {v : Value} : Φ j v W → DF ops Φ W r ((dstAt ops j, v) :: l) l' → DF ops Φ W (j :: r) l l'

theorem gather_df {ops : List Oper} {Φs : List VP} {Φ : Nat → VP} {W : World} {K : Fr → Prop} (hΦ : ∀ j o, ops[j]? = some o → Φs[j]? = some (Φ j)) : ∀ {js : List Nat} {l : Fr}, (js.all fun j => match ops[j]? with
    | some o => o.dst.isSome
    | none => false) = true → (∀ l', DF ops Φ W js l l' → K l') → Gather (depAt ops Φs js) l W K := by
  intro js
  induction js with
  | nil => intro l _ h; exact h l .nil
  | cons j r ih =>
    intro l hd h
    simp only [List.all_cons, Bool.and_eq_true] at hd
    obtain ⟨hd1, hd2⟩ := hd
    split at hd1
    · rename_i o ho
      obtain ⟨d, hd⟩ := Option.isSome_iff_exists.1 hd1
      have e1 : (ops[j]?).bind (·.dst) = some d := by rw [ho]; exact hd
      have e2 : (Φs[j]?).getD (fun _ _ => True) = Φ j := by rw [hΦ j o ho]; rfl
      have e3 : dstAt ops j = d := by simp [dstAt, ho, hd]
      simp only [depAt, List.map_cons, e1, e2]
      intro v hv
      refine ih hd2 fun l' hl => h l' (.cons hv ?_)
      rw [e3]; exact hl
    · cases hd1

theorem DF.keep {ops : List Oper} {Φ : Nat → VP} {W : World} {js : List Nat} {l l' : Fr} (h : DF ops Φ W js l l') : ∀ {t : Nat} {v : Value}, l.look t = some v → (∀ j ∈ js, dstAt ops j ≠ t) → l'.look t = some v := by
  induction h with
  | nil => intro t v h _; exact h
  | cons hv _ ih =>
    intro t v h hn
    refine ih ?_ (fun j hj => hn j (by simp [hj]))
    rw [Fr.look_cons, if_neg (hn _ (by simp))]; exact h
theorem DF.look {ops : List Oper} {Φ : Nat → VP} {W : World} {js : List Nat} {l l' : Fr} (h : DF ops Φ W js l l') : (js.map (dstAt ops)).Nodup → ∀ {j : Nat}, j ∈ js → ∃ v, l'.look (dstAt ops j) = some v ∧ Φ j v W := by
  induction h with
  | nil => intro _ j hj; simp at hj
  | @cons i r l l' v hv hr ih =>
    intro hn j hj
    rw [List.map_cons, List.nodup_cons] at hn
    by_cases e : j ∈ r
    · exact ih hn.2 e
    · have : j = i := by rcases List.mem_cons.1 hj with h | h; exact h; exact absurd h e
      subst this
      refine ⟨v, hr.keep (by rw [Fr.look_cons, if_pos rfl]) ?_, hv⟩
      intro q hq e'
      exact hn.1 (e' ▸ List.mem_map.2 ⟨q, hq, rfl⟩)

/-- Two readings of one memory. -/
def Mem.sup (a b : Mem) : Mem := fun k => match a k with
  | some o => some o
  | none => b k
theorem sup_sh {e W : World} {a b : Mem} {f : Frag} (h : SH e W a f) (k : SH e W b f) : SH e W (a.sup b) f ∧ a.le (a.sup b) ∧ b.le (a.sup b) := by
  refine ⟨⟨h.os, h.tape, h.output, ?_, h.own, h.nd, ?_, h.noctl, ?_⟩, fun x o hx => by simp [Mem.sup, hx], ?_⟩
  · intro x o hx
    unfold Mem.sup at hx
    split at hx
    · rename_i o' ho; cases hx; exact h.fz _ _ ho
    · exact k.fz _ _ hx
  · intro p hp
    unfold Mem.sup
    rw [h.dis p hp]; exact k.dis p hp
  · intro x o hx
    unfold Mem.sup at hx
    split at hx
    · rename_i o' ho; cases hx; exact h.mctl _ _ ho
    · exact k.mctl _ _ hx
  · intro x o hx
    unfold Mem.sup
    cases ha : a x with
    | none => exact hx
    | some o' =>
      have h1 := h.fz _ _ ha
      have h2 := k.fz _ _ hx
      rw [h1] at h2; exact h2

section
variable {P : Program} {N : Ev} {X : Cx} {Q : APost} {st : AS}

theorem conc_df {ops : List Oper} {Ts : List TT} {W : World} {m : Mem} {ρ : List Value} {φ : List Frag} {H : AH} {n : Nat} {js : List Nat} {l l' : Fr} (h : DF ops (fun j => phi X.e m ρ (φ.flatten ++ X.F) (ttAt Ts j)) W js l l') : ∀ {lA : AFr} {m1 : Mem}, m.le m1 → Conc X ⟨lA, H, n⟩ l W m1 ρ φ → (∀ j ∈ js, (ttAt Ts j).1 = true) → ∃ m', m.le m' ∧ Conc X ⟨depF ops Ts js lA, H, n⟩ l' W m' ρ φ := by
  induction h with
  | nil => intro lA m1 hm hc _; exact ⟨m1, hm, hc⟩
  | @cons j r l l' v hv _ ih =>
    intro lA m1 hm hc ht
    obtain ⟨m2, h2, h3, h4⟩ := hv.1 (ht j (by simp))
    obtain ⟨h5, h6, h7⟩ := sup_sh hc.sh h3
    have hc' : Conc X (AS.put ⟨lA, H, n⟩ (dstAt ops j) (ttAt Ts j).2) ((dstAt ops j, v) :: l) W (m1.sup m2) ρ φ := (hc.grow h6 h5).put (RepA.mono h7 (fun _ _ h => h) _ h4)
    exact ih (hm.trans h6) hc' (fun q hq => ht q (by simp [hq]))

/-- What is owed of an operation. -/
def AOb (P : Program) (N : Ev) (X : Cx) (ops : List Oper) (Ts : List TT) (lA : AFr) (H : AH) (n : Nat) (o : Oper) (T : TT) (js : List Nat) : Prop :=
  ∀ (Q : Post) lb W m0 m ρ φ, m0.le m → Conc X ⟨lA, H, n⟩ lb W m ρ φ → ∀ l', DF ops (fun j => phi X.e m0 ρ (φ.flatten ++ X.F) (ttAt Ts j)) W js lb l' →
    OpG P N (fun w W => Below w.heap.size w W) ops o (phi X.e m0 ρ (φ.flatten ++ X.F) T) Q l' W

def guardOk (ops : List Oper) (Ts : List TT) (o : Oper) (T : TT) (js : List Nat) : Prop := match o.guard with
  | none => T.1 = true
  | some (j, b) => memB j js = true ∧ nodupB (js.map (dstAt ops)) = true ∧ (match ops[j]? with
    | some o => o.dst.isSome
    | none => false) = true ∧ ∃ c, (ttAt Ts j).2 = .bool c ∧ T.1 = ((ttAt Ts j).1 && (bif b then c else !c))

theorem opg_of {ops : List Oper} {Ts : List TT} {lA : AFr} {H : AH} {n : Nat} {o : Oper} {T : TT} {js : List Nat} (hg : guardOk ops Ts o T js)
    (h : T.1 = true → ∀ (Q : Post) lb W m0 m ρ φ, m0.le m → Conc X ⟨lA, H, n⟩ lb W m ρ φ → ∀ l', DF ops (fun j => phi X.e m0 ρ (φ.flatten ++ X.F) (ttAt Ts j)) W js lb l' →
      OpW P N o (fun l'' W' => toldL o (phi X.e m0 ρ (φ.flatten ++ X.F) T) l'' W' ∧ Below W.heap.size W W') Q l' W) : AOb P N X ops Ts lA H n o T js := by
  intro Q lb W m0 m ρ φ hm hc l' hd
  unfold OpG
  unfold guardOk at hg
  cases ho : o.guard with
  | none => rw [ho] at hg; exact h hg Q lb W m0 m ρ φ hm hc l' hd
  | some p =>
    obtain ⟨j, b⟩ := p
    rw [ho] at hg
    simp only at hg
    obtain ⟨h1, h2, h3, c, h4, h5⟩ := hg
    obtain ⟨v, hv, hφ⟩ := hd.look (nodup_of h2) (memB_iff.1 h1)
    split at h3
    · rename_i o' ho'
      obtain ⟨d, hdd⟩ := Option.isSome_iff_exists.1 h3
      have e3 : dstAt ops j = d := by simp [dstAt, ho', hdd]
      rw [e3] at hv
      refine ⟨v, by rw [ho']; simp [hdd, hv], fun hvb => h ?_ Q lb W m0 m ρ φ hm hc l' hd, fun hvb => ⟨fun hT => absurd ?_ hvb, fun _ => rfl⟩⟩
      · rw [h5]
        cases hg : (ttAt Ts j).1 with
        | false => have := hφ.2 hg; rw [hvb] at this; exact absurd this.symm undef_ne
        | true =>
          obtain ⟨m', _, _, hr⟩ := hφ.1 hg
          rw [h4] at hr
          simp only [RepA] at hr
          rw [hvb] at hr
          cases hr
          cases b <;> rfl
      · rw [h5, Bool.and_eq_true] at hT
        obtain ⟨m', _, _, hr⟩ := hφ.1 hT.1
        rw [h4] at hr
        simp only [RepA] at hr
        have := hT.2
        cases b <;> simp at this <;> subst this <;> exact hr
    · cases h3

/-- An operation that gives a value. -/
theorem ob_v {ops : List Oper} {Ts : List TT} {lA : AFr} {H : AH} {n : Nat} {o : Oper} {T : TT} {js : List Nat} (hg : guardOk ops Ts o T js) (hall : T.1 = true → ∀ j ∈ js, (ttAt Ts j).1 = true)
    (h : T.1 = true → AOpV P N X o T.2 ⟨depF ops Ts js lA, H, n⟩) : AOb P N X ops Ts lA H n o T js := by
  refine opg_of hg fun hT Q lb W m0 m ρ φ hm hc l' hd => ?_
  obtain ⟨m', h1, h2⟩ := conc_df hd hm hc (hall hT)
  intro a ha hgd
  refine Oper.wpIn_mono ?_ (h hT Q l' W m' ρ φ h2 a ha hgd)
  rintro a w' ⟨l'', hl'', g'', ⟨d, v, hdd, rfl, hb, m'', hm'', hs, hr⟩⟩
  refine ⟨_, hl'', g'', told hdd (by rw [Fr.look_cons, if_pos rfl]) ⟨fun _ => ⟨m'', h1.trans hm'', hs, hr⟩, fun hf => ?_⟩, hb⟩
  rw [hT] at hf; cases hf

/-- 'p && q', 'p || q': the second one is asked about where it counts. -/
theorem ob_pick {ops : List Oper} {Ts : List TT} {lA : AFr} {H : AH} {n : Nat} {d U : Nat} {pos : String} {aft : Array Edge} {g : Option (Nat × Bool)} {c x y : Operand} {T : TT} {js js' : List Nat} {jq : Nat} {p q b : Bool}
    (hg : guardOk ops Ts ⟨some d, .pick c x y, U, pos, aft, g⟩ T js) (hjs : js = jq :: js') (hnd : nodupB (js.map (dstAt ops)) = true) (hall : T.1 = true → ∀ j ∈ js', (ttAt Ts j).1 = true)
    (hT2 : T.2 = .bool (bif b then p && q else p || q)) (hc : aev (depF ops Ts js' ((dstAt ops jq, .any) :: lA)) c = some (.bool p)) (hq : ttAt Ts jq = (T.1 && (bif b then p else !p), .bool q)) (hx : (bif b then x else y) = .tmp (dstAt ops jq)) (hy : (bif b then y else x) = .const (.bool (!b))) (hN : Nat.blt d N.n = true := by rfl) :
    AOb P N X ops Ts lA H n ⟨some d, .pick c x y, U, pos, aft, g⟩ T js := by
  refine opg_of hg fun hT Q lb W m0 m ρ φ hm hcc l' hd => ?_
  subst hjs
  obtain ⟨v, hv, hφ⟩ := hd.look (nodup_of hnd) (j := jq) (by simp)
  cases hd with
  | @cons _ _ _ _ v' hv' hr' =>
  have h1 : Conc X (AS.put ⟨lA, H, n⟩ (dstAt ops jq) .any) ((dstAt ops jq, v') :: lb) W m ρ φ := hcc.put (by simp only [RepA])
  obtain ⟨m', h2, h3⟩ := conc_df hr' hm h1 (hall hT)
  have h4 := h3.bool hc
  have hvq : (bif b then p else !p) = true → v = .bool q := by
    intro hb
    have e1 : (ttAt Ts jq).1 = true := by rw [hq]; simp only; rw [hT, hb]; rfl
    obtain ⟨_, _, _, hr⟩ := hφ.1 e1
    rw [hq] at hr
    simpa only [RepA] using hr
  have hres : toldL (⟨some d, .pick c x y, U, pos, aft, g⟩ : Oper) (phi X.e m0 ρ (φ.flatten ++ X.F) T) ((d, .bool (bif b then p && q else p || q)) :: l') W ∧ Below W.heap.size W W := by
    refine ⟨told rfl (by rw [Fr.look_cons, if_pos rfl]) ⟨fun _ => ⟨m', h2, h3.sh, by rw [hT2]; simp only [RepA]⟩, fun hf => ?_⟩, Below.refl _ _⟩
    rw [hT] at hf; cases hf
  refine op_pick (v := .bool (bif b then p && q else p || q)) h4 (fun hp => ?_) (fun hp => ?_) hN hres
  · subst hp
    cases b with
    | true =>
      simp only [cond_true] at hx ⊢
      rw [hx]
      show l'.look _ = _
      rw [hv, hvq rfl]; simp
    | false =>
      simp only [cond_false] at hy ⊢
      rw [hy]; simp [evo]
  · subst hp
    cases b with
    | true =>
      simp only [cond_true] at hy ⊢
      rw [hy]; simp [evo]
    | false =>
      simp only [cond_false] at hx ⊢
      rw [hx]
      show l'.look _ = _
      rw [hv, hvq rfl]; simp

/-- What is owed of all operations. -/
def AObs (P : Program) (N : Ev) (X : Cx) (ops : List Oper) (Ts : List TT) (lA : AFr) (H : AH) (n : Nat) : List Oper → List TT → List (List Nat) → Prop
  | o :: os, T :: r, js :: jss => AOb P N X ops Ts lA H n o T js ∧ AObs P N X ops Ts lA H n os r jss
  | [], [], [] => True
  | _, _, _ => False

def hasK (ks : List Nat) (d : Nat) : Bool := memB d ks
/-- The check of EngD, of the slots that are kept. -/
def drawOkK (N : Nat) (ops : List Oper) (dep : List (List Nat)) (ks : List Nat) : Bool :=
  (ops.all fun o => o.dst.isNone || (Nat.blt (dstOf o) N && !memB (dstOf o) ks)) &&
  ((ops.zipIdx).all fun (o, i) => (ops.zipIdx).all fun (o', i') => Nat.beq i i' || (o.dst.isNone || (o'.dst.isNone || !Nat.beq (dstOf o) (dstOf o')))) && Nat.beq dep.length ops.length &&
  ((ops.zip dep).all fun (o, js) => js.all fun j => o.after.toList.any fun e => Region.binds .any e && Nat.beq e.on j) &&
  ((ops.zipIdx).all fun (o, i) => o.after.toList.all fun e => !Region.binds .any e || Nat.blt e.on i)
theorem look_keys : ∀ {l : Fr} {d : Nat}, (l.look d).isNone = !memB d (l.map (·.1)) := by
  intro l
  induction l with
  | nil => intro d; rfl
  | cons p l ih =>
    intro d
    obtain ⟨t, v⟩ := p
    rw [Fr.look_cons]
    simp only [List.map_cons, memB]
    by_cases h : t = d
    · subst h; simp
    · rw [if_neg h]
      have : Nat.beq d t = false := by rw [Bool.eq_false_iff]; intro hc; exact h (Nat.eq_of_beq_eq_true hc).symm
      rw [this, Bool.false_or]; exact ih
theorem draw_keys {N : Nat} {ops : List Oper} {dep : List (List Nat)} {l : Fr} (h : drawOkK N ops dep (l.map (·.1)) = true) : drawOk N ops dep l = true := by
  unfold drawOkK at h
  unfold drawOk
  simp only [look_keys]
  exact h

/-- The concrete frame of the slots that are kept. -/
theorem keep_conc {fr : Fr} {w : World} {m : Mem} {ρ : List Value} {φ : List Frag} (hc : Conc X st fr w m ρ φ) : ∀ {ks : List Nat}, (ks.all fun t => (st.l.look t).isSome) = true → ∃ lb : Fr, lb.map (·.1) = ks ∧ Sub lb fr ∧ Conc X ⟨keepF st.l ks, st.H, st.n⟩ lb w m ρ φ := by
  intro ks
  induction ks with
  | nil => intro _; exact ⟨[], rfl, trivial, hc.mle, hc.pre, hc.nρ, hc.nφ, fun t a h => by simp [keepF, AFr.look] at h, hc.objs, hc.sh⟩
  | cons t r ih =>
    intro h
    simp only [List.all_cons, Bool.and_eq_true] at h
    obtain ⟨lb, h1, h2, h3⟩ := ih h.2
    obtain ⟨a, ha⟩ := Option.isSome_iff_exists.1 h.1
    obtain ⟨v, h4, h5⟩ := hc.slots t a ha
    refine ⟨(t, v) :: lb, by simp [h1], ⟨h4, h2⟩, ?_⟩
    have : keepF st.l (t :: r) = (t, a) :: keepF st.l r := by simp only [keepF, ha]
    rw [this]
    exact h3.put (st := ⟨keepF st.l r, st.H, st.n⟩) h5

theorem phi_mono {e : World} {m : Mem} {ρ : List Value} {f : Frag} {T : TT} : Mono (fun w W => Below w.heap.size w W) (phi e m ρ f T) := by
  intro v W W' hb h
  exact ⟨fun hT => let ⟨m', h1, h2, h3⟩ := h.1 hT; ⟨m', h1, h2.ext hb, h3⟩, h.2⟩
theorem monos_phi {e : World} {m : Mem} {ρ : List Value} {f : Frag} : ∀ (Ts : List TT), Monos (fun w W => Below w.heap.size w W) (Ts.map (phi e m ρ f)) := by
  intro Ts
  induction Ts with
  | nil => trivial
  | cons T r ih => exact ⟨phi_mono, ih⟩
theorem phi_at {e : World} {m : Mem} {ρ : List Value} {f : Frag} {Ts : List TT} {ops : List Oper} (hl : Ts.length = ops.length) : ∀ (j : Nat) (o : Oper), ops[j]? = some o → (Ts.map (phi e m ρ f))[j]? = some (phi e m ρ f (ttAt Ts j)) := by
  intro j o hj
  have hlt := (List.getElem?_eq_some_iff.1 hj).1
  have h1 : Ts[j]? = some (Ts[j]'(by omega)) := List.getElem?_eq_getElem (by omega)
  rw [List.getElem?_map, h1]
  simp [ttAt, h1]

def depsOk (ops : List Oper) (dep : List (List Nat)) : Bool := dep.all fun js => js.all fun j => match ops[j]? with
  | some o => o.dst.isSome
  | none => false
theorem obs_of {ops : List Oper} {Ts : List TT} {lA : AFr} {H : AH} {n : Nat} {lb : Fr} {w : World} {m : Mem} {ρ : List Value} {φ : List Frag} {Q' : Post} (hl : Ts.length = ops.length) (hc : Conc X ⟨lA, H, n⟩ lb w m ρ φ) : ∀ {os : List Oper} {r : List TT} {jss : List (List Nat)}, depsOk ops jss = true → AObs P N X ops Ts lA H n os r jss →
    Obs P N (fun w W => Below w.heap.size w W) ops (Ts.map (phi X.e m ρ (φ.flatten ++ X.F))) Q' lb w os (r.map (phi X.e m ρ (φ.flatten ++ X.F))) jss := by
  intro os
  induction os with
  | nil => intro r jss _ h; unfold Obs; trivial
  | cons o os ih =>
    intro r jss hd h
    cases r with
    | nil => cases jss <;> trivial
    | cons T r => cases jss with
      | nil => trivial
      | cons js jss =>
        simp only [depsOk, List.all_cons, Bool.and_eq_true] at hd
        refine ⟨fun W hW => ?_, ih hd.2 h.2⟩
        exact gather_df (phi_at hl) hd.1 fun l' hl' => h.1 Q' lb W m m ρ φ (Mem.le_refl _) (hc.grow (Mem.le_refl _) (hc.sh.ext hW)) l' hl'

/-- A region whose order is drawn. -/
theorem awc_draw {id : Nat} {ops : List Oper} (hm : P.follows .mixedOrders = true) (ks : List Nat) (Ts : List TT) (dep : List (List Nat)) (live : List Nat) (hks : (ks.all fun t => (st.l.look t).isSome) = true) (hok : drawOkK N.n ops dep ks = true) (hTs : Nat.beq Ts.length ops.length = true) (hlv : (live.all fun i => Nat.blt i ops.length) = true) (hdp : depsOk ops (live :: dep) = true)
    (hob : AObs P N X ops Ts (keepF st.l ks) st.H st.n ops Ts dep) (hall : ∀ j ∈ live, (ttAt Ts j).1 = true) (k : Q .normal ⟨depF ops Ts live (keepF st.l ks), st.H, st.n⟩) : AWC P N X (.region id ops.toArray true) Q st := by
  intro fr w m ρ φ hc
  obtain ⟨lb, h1, h2, h3⟩ := keep_conc hc hks
  have hl := Nat.eq_of_beq_eq_true hTs
  simp only [depsOk, List.all_cons, Bool.and_eq_true] at hdp
  refine wc_draw hm lb h2 (Ts.map (phi X.e m ρ (φ.flatten ++ X.F))) dep live (draw_keys (by rw [h1]; exact hok)) (by rw [List.length_map]; exact hTs) hlv (monos_phi Ts) (obs_of hl h3 hdp.2 hob) ?_
  intro W hW
  refine gather_df (phi_at hl) hdp.1 fun l' hl' => ?_
  obtain ⟨m', h4, h5⟩ := conc_df hl' (Mem.le_refl _) (h3.grow (Mem.le_refl _) (h3.sh.ext hW)) hall
  exact ⟨_, m', ρ, φ, h5, k⟩
/-- A region in the text's order, with guards. -/
theorem awc_text {id : Nat} {ops : List Oper} (ks : List Nat) (Ts : List TT) (dep : List (List Nat)) (live : List Nat) (hks : (ks.all fun t => (st.l.look t).isSome) = true) (hok : drawOkK N.n ops dep ks = true) (hTs : Nat.beq Ts.length ops.length = true) (hlv : (live.all fun i => Nat.blt i ops.length) = true) (hdp : depsOk ops (live :: dep) = true)
    (hob : AObs P N X ops Ts (keepF st.l ks) st.H st.n ops Ts dep) (hall : ∀ j ∈ live, (ttAt Ts j).1 = true) (k : Q .normal ⟨depF ops Ts live (keepF st.l ks), st.H, st.n⟩) : AWC P N X (.region id ops.toArray false) Q st := by
  intro fr w m ρ φ hc
  obtain ⟨lb, h1, h2, h3⟩ := keep_conc hc hks
  have hl := Nat.eq_of_beq_eq_true hTs
  simp only [depsOk, List.all_cons, Bool.and_eq_true] at hdp
  refine wc_text lb h2 (Ts.map (phi X.e m ρ (φ.flatten ++ X.F))) dep live (draw_keys (by rw [h1]; exact hok)) (by rw [List.length_map]; exact hTs) hlv (monos_phi Ts) (obs_of hl h3 hdp.2 hob) ?_
  intro W hW
  refine gather_df (phi_at hl) hdp.1 fun l' hl' => ?_
  obtain ⟨m', h4, h5⟩ := conc_df hl' (Mem.le_refl _) (h3.grow (Mem.le_refl _) (h3.sh.ext hW)) hall
  exact ⟨_, m', ρ, φ, h5, k⟩
/-- A region whose order is drawn, but for its tail. -/
theorem awc_draw_tail {id : Nat} {ops : List Oper} (q : Nat) (hm : P.follows .mixedOrders = true) (ks : List Nat) (Ts : List TT) (dep : List (List Nat)) (live : List Nat) (hks : (ks.all fun t => (st.l.look t).isSome) = true) (hq : Nat.ble q ops.length = true) (hok : drawOkK N.n (ops.take q) dep ks = true) (hch : chainOk q ops = true) (hback : backOk ops = true) (hTs : Nat.beq Ts.length q = true) (hlv : (live.all fun i => Nat.blt i q) = true) (hdp : depsOk (ops.take q) (live :: dep) = true)
    (hob : AObs P N X (ops.take q) Ts (keepF st.l ks) st.H st.n (ops.take q) Ts dep) (hall : ∀ j ∈ live, (ttAt Ts j).1 = true) (k : AWL P N X ops.toArray Q (ops.drop q) ⟨depF (ops.take q) Ts live (keepF st.l ks), st.H, st.n⟩) : AWC P N X (.region id ops.toArray true) Q st := by
  intro fr w m ρ φ hc
  obtain ⟨lb, h1, h2, h3⟩ := keep_conc hc hks
  have hq' := Nat.le_of_ble_eq_true hq
  have hl : Ts.length = (ops.take q).length := by rw [Nat.eq_of_beq_eq_true hTs, List.length_take]; omega
  simp only [depsOk, List.all_cons, Bool.and_eq_true] at hdp
  refine wc_draw_tail q hm lb h2 (Ts.map (phi X.e m ρ (φ.flatten ++ X.F))) dep live hq (draw_keys (by rw [h1]; exact hok)) hch hback (by rw [List.length_map]; exact hTs) hlv (monos_phi Ts) (obs_of hl h3 hdp.2 hob) ?_
  intro W hW
  refine gather_df (phi_at hl) hdp.1 fun l' hl' => ?_
  obtain ⟨m', h4, h5⟩ := conc_df hl' (Mem.le_refl _) (h3.grow (Mem.le_refl _) (h3.sh.ext hW)) hall
  exact k _ _ _ _ _ h5
end
end Go.Ab
