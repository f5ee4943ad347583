/- Lemmas for a law of the seat: what functions of the program do, each stated as a contract of its own (module AbR). -/
import Derived.Test.YtjagcoeihmhabaaAbQ
import Derived.Scope
set_option linter.unusedVariables false
set_option linter.unusedSimpArgs false
namespace Go.Eng
open Go.RowKit Go.Shelf Go.Proofs

/-! regions told where an operation reads a slot that a later one writes -/
section
variable {P : Program} {N : Ev} {Q : Post} {l : Fr} {w : World}
/-- What is listed has what it waits for listed. -/
def ShutX (ops : List Oper) (listed : Array Bool) : Prop := ∀ (i : Nat) (o : Oper), ops[i]? = some o → listed[i]? = some true → ∀ e ∈ o.after, Region.binds .any e = true → listed[e.on]? = some true
theorem shutX_set {ops : List Oper} {listed : Array Bool} (hcl : ShutX ops listed) {i : Nat} {o : Oper} (ho : ops[i]? = some o) (hrd : ∀ e ∈ o.after, Region.binds .any e = true → listed[e.on]? = some true) : ShutX ops (listed.setIfInBounds i true) := by
  have hset : ∀ (j : Nat), listed[j]? = some true → (listed.setIfInBounds i true)[j]? = some true := by
    intro j hj
    by_cases e : i = j
    · subst e; rw [Array.getElem?_setIfInBounds_self_of_lt (Array.getElem?_eq_some_iff.1 hj).1]
    · rw [Array.getElem?_setIfInBounds_ne e]; exact hj
  intro j o' ho' hj e he hb
  by_cases e1 : i = j
  · subst e1
    rw [ho] at ho'; cases ho'
    exact hset _ (hrd e he hb)
  · rw [Array.getElem?_setIfInBounds_ne e1] at hj
    exact hset _ (hcl j o' ho' hj e he hb)
/-- Who writes the slot waits for operation i (or is it). -/
def lateB (ops : List Oper) (i t : Nat) : Bool := (ops.zipIdx).all fun (o, k) => o.dst.isNone || (!Nat.beq (dstOf o) t || (Nat.beq k i || o.after.toList.any fun e => Region.binds .any e && Nat.beq e.on i))
/-- The bases of the operations: what no operation writes, and what is written behind it alone. -/
def BxOk (ops : List Oper) (lb lx : Fr) (bx : List Fr) : Prop := bx.length = ops.length ∧ ∀ (i : Nat) (b : Fr), bx[i]? = some b → ∀ t v, b.look t = some v → lb.look t = some v ∨ (lx.look t = some v ∧ lateB ops i t = true)
def ObsX (P : Program) (N : Ev) (S : World → World → Prop) (ops : List Oper) (Φ : List VP) (Q : Post) (w : World) : List Oper → List VP → List (List Nat) → List Fr → Prop
  | o :: os, φ :: φs, js :: jss, b :: bs => (∀ W, S w W → Gather (depAt ops Φ js) b W fun l => OpG P N S ops o φ Q l W) ∧ ObsX P N S ops Φ Q w os φs jss bs
  | _, _, _, _ => True
theorem ObsX.at {S : World → World → Prop} {ops : List Oper} {Φ : List VP} {os : List Oper} : ∀ {φs : List VP} {jss : List (List Nat)} {bs : List Fr}, ObsX P N S ops Φ Q w os φs jss bs → ∀ {i : Nat} {o : Oper} {φ : VP} {js : List Nat} {b : Fr}, os[i]? = some o → φs[i]? = some φ → jss[i]? = some js → bs[i]? = some b →
    ∀ W, S w W → Gather (depAt ops Φ js) b W fun l => OpG P N S ops o φ Q l W := by
  induction os with
  | nil => intro φs jss bs _ i o φ js b h; simp at h
  | cons o' os ih =>
    intro φs jss bs h i o φ js b h1 h2 h3 h4
    cases φs with
    | nil => simp at h2
    | cons φ' φs =>
      cases jss with
      | nil => simp at h3
      | cons js' jss =>
        cases bs with
        | nil => simp at h4
        | cons b' bs =>
        cases i with
        | zero => simp at h1 h2 h3 h4; subst h1 h2 h3 h4; exact h.1
        | succ i => simp at h1 h2 h3 h4; exact ih h.2 h1 h2 h3 h4
theorem ObsX.drawn {S : World → World → Prop} (hS : SR S) {ops : List Oper} {Φ : List VP} {k : Nat} {os : List Oper} : ∀ {φs : List VP} {jss : List (List Nat)} {bs : List Fr}, ObsX P N S ops Φ Q w os φs jss bs → ObsX P N S ops Φ Q { w with drawn := k } os φs jss bs := by
  induction os with
  | nil => intro φs jss bs _; trivial
  | cons o os ih =>
    intro φs jss bs h
    cases φs with
    | nil => trivial
    | cons φ φs =>
      cases jss with
      | nil => trivial
      | cons js jss =>
        cases bs with
        | nil => trivial
        | cons b bs => exact ⟨fun W hW => h.1 W (hS.drawn _ _ _ hW), ih h.2⟩
structure MidX (N : Ev) (S : World → World → Prop) (ops : List Oper) (Φ : List VP) (lb lx : Fr) (w : World) (listed : Array Bool) (a : Act) (W : World) : Prop where
  below : S w W
  base : Holds N lb a
  late : ∀ t v, lx.look t = some v → (∀ (k : Nat) (o : Oper), ops[k]? = some o → o.dst = some t → listed[k]? ≠ some true) → a.tmps[t]? = some v
  good : Good N a W
  done : ∀ (i : Nat) (o : Oper) (φ : VP), ops[i]? = some o → Φ[i]? = some φ → listed[i]? = some true → toldA o φ a W
  shut : ShutX ops listed

theorem mid_stepX {S : World → World → Prop} (hS : SR S) {ops : List Oper} {Φ : List VP} {dep : List (List Nat)} {lb : Fr} (hok : drawOk N.n ops dep lb = true) (hΦ : Φ.length = ops.length) (hmono : Monos S Φ) {lx : Fr} {bx : List Fr} (hbx : BxOk ops lb lx bx) (hob : ObsX P N S ops Φ Q w ops Φ dep bx)
    {listed : Array Bool} {a : Act} {W : World} (hmid : MidX N S ops Φ lb lx w listed a W) {i : Nat} {o : Oper} (ho : ops[i]? = some o) (hun : listed[i]? = some false)
    (hrd : ∀ e ∈ o.after, Region.binds .any e = true → listed[e.on]? = some true) {Kn : Act → World → Prop} (hK : ∀ a' W', MidX N S ops Φ lb lx w (listed.setIfInBounds i true) a' W' → Kn a' W')
    {full : Array Oper} (hfull : ∀ (k : Nat) (o : Oper), ops[k]? = some o → full[k]? = some o) : wpOpIn (FW N.ro) 0 P full (up N Q) i Kn a W := by
  have hok0 := hok
  simp only [drawOk, Bool.and_eq_true, List.all_eq_true] at hok
  obtain ⟨⟨⟨⟨h1, h2'⟩, h3⟩, h4⟩, h5⟩ := hok
  have hlt : i < ops.length := (List.getElem?_eq_some_iff.1 ho).1
  have ho' : full[i]? = some o := hfull i o ho
  have hφl : i < Φ.length := by omega
  have hφ : Φ[i]? = some (Φ[i]'hφl) := List.getElem?_eq_getElem hφl
  generalize hφφ : Φ[i]'hφl = φ at *
  have hdl : i < dep.length := by have := Nat.eq_of_beq_eq_true h3; omega
  have hj : dep[i]? = some (dep[i]'hdl) := List.getElem?_eq_getElem hdl
  generalize hjj : dep[i]'hdl = js at *
  have hdst := h1 o (List.mem_of_getElem? ho)
  have hdN : ∀ d, o.dst = some d → d < N.n ∧ lb.look d = none := by
    intro d hd
    simp [hd, dstOf] at hdst
    exact hdst
  have huniq : ∀ (k : Nat) (ok : Oper) (d : Nat), ops[k]? = some ok → o.dst = some d → ok.dst = some d → i = k := by
    intro k ok d hk hd hdk
    have hz := h2' (o, i) (by rw [List.mem_zipIdx_iff_getElem?]; simpa using ho)
    have hz2 := hz (ok, k) (by rw [List.mem_zipIdx_iff_getElem?]; simpa using hk)
    simpa [hd, hdk, dstOf] using hz2
  -- what the operation asks about is done
  have hdeps : ∀ p ∈ depAt ops Φ js, toldP p a W := by
    intro p hp
    simp only [depAt, List.mem_map] at hp
    obtain ⟨j, hjm, rfl⟩ := hp
    have hz := h4 (o, js) (by
      refine List.mem_of_getElem? (i := i) ?_
      rw [List.getElem?_zip_eq_some]; exact ⟨ho, hj⟩)
    have hz' := hz j hjm
    rw [List.any_eq_true] at hz'
    obtain ⟨e, he, hb⟩ := hz'
    have he := Array.mem_toList_iff.1 he
    rw [Bool.and_eq_true] at hb
    have hej : e.on = j := Nat.eq_of_beq_eq_true hb.2
    have hL' : listed[j]? = some true := by rw [← hej]; exact hrd e he hb.1
    have hjlt : j < ops.length := by
      have := edges_of hok0 ho e he hb.1; omega
    have hoj : ops[j]? = some (ops[j]'hjlt) := List.getElem?_eq_getElem hjlt
    have hφj : Φ[j]? = some (Φ[j]'(by omega)) := List.getElem?_eq_getElem (by omega)
    have := hmid.done j _ _ hoj hφj hL'
    exact told_dep hoj hφj this
  have hbl : i < bx.length := by rw [hbx.1]; exact hlt
  have hb : bx[i]? = some (bx[i]'hbl) := List.getElem?_eq_getElem hbl
  generalize hbb : bx[i]'hbl = b at *
  have hbase : Holds N b a := by
    refine ⟨hmid.base.size, fun t v ht => ?_⟩
    rcases hbx.2 i b hb t v ht with h | ⟨h, hlate⟩
    · exact hmid.base.slot t v h
    · refine hmid.late t v h fun k ok hk hkd hlk => ?_
      have hz := hlate
      simp only [lateB, List.all_eq_true] at hz
      have hz1 := hz (ok, k) (by rw [List.mem_zipIdx_iff_getElem?]; simpa using hk)
      have e1 : Nat.beq (dstOf ok) t = true := by simp [hkd, dstOf]
      simp only [hkd, Option.isNone_some, Bool.false_or, e1, Bool.not_true, Bool.or_eq_true, List.any_eq_true, Bool.and_eq_true] at hz1
      rcases hz1 with hz1 | ⟨e, he, hbe, heq⟩
      · have := Nat.eq_of_beq_eq_true hz1
        subst this
        rw [hun] at hlk; cases hlk
      · have hl2 := hmid.shut k ok hk hlk e (Array.mem_toList_iff.1 he) hbe
        rw [Nat.eq_of_beq_eq_true heq, hun] at hl2; cases hl2
  obtain ⟨l', hl', hG⟩ := Gather.use (hob.at ho hφ hj hb W hmid.below) hbase hdeps
  -- what holds behind the operation
  have hstep : ∀ (a' : Act) (W' : World) (v : Value), a'.tmps = (a.put o.dst v).tmps → Good N a' W' → toldA o φ a' W' → S W W' → MidX N S ops Φ lb lx w (listed.setIfInBounds i true) a' W' := by
    intro a' W' v ht hdf hφv hBW
    have hget : ∀ t, o.dst ≠ some t → a'.tmps[t]? = a.tmps[t]? := by
      intro t hne
      rw [ht]
      cases hd : o.dst with
      | none => rfl
      | some d =>
        rw [hd] at hne
        simp only [Act.put, Array.getElem?_setIfInBounds_ne (fun e : d = t => hne (by rw [e]))]
    refine ⟨hS.trans _ _ _ hmid.below hBW, ⟨?_, ?_⟩, ?_, hdf, ?_, shutX_set hmid.shut ho hrd⟩
    · rw [ht]; cases o.dst <;> simp [Act.put, hmid.base.size]
    · intro t u htu
      rw [hget t (fun hd => by have := (hdN t hd).2; rw [htu] at this; cases this)]
      exact hmid.base.slot t u htu
    · intro t u htu hno
      have hti : o.dst ≠ some t := by
        intro hd
        refine hno i o ho hd ?_
        rw [Array.getElem?_setIfInBounds_self_of_lt (Array.getElem?_eq_some_iff.1 hun).1]
      rw [hget t hti]
      refine hmid.late t u htu fun k ok hk hkd hlk => hno k ok hk hkd ?_
      by_cases e : i = k
      · subst e; rw [hun] at hlk; cases hlk
      · rw [Array.getElem?_setIfInBounds_ne e]; exact hlk
    · intro k ok φk hok hφk hlk
      by_cases hik : i = k
      · subst hik
        rw [ho] at hok; cases hok
        rw [hφ] at hφk; cases hφk
        exact hφv
      · have hlk' : listed[k]? = some true := by
          rwa [Array.getElem?_setIfInBounds_ne hik] at hlk
        have hdn := hmid.done k ok φk hok hφk hlk'
        unfold toldA at hdn ⊢
        cases hdk : ok.dst with
        | none => rw [hdk] at hdn; exact hmono.at hφk undef W W' hBW hdn
        | some dk =>
          rw [hdk] at hdn
          obtain ⟨u, hu, hφu⟩ := hdn
          refine ⟨u, ?_, hmono.at hφk u W W' hBW hφu⟩
          rw [hget dk (fun hd => hik (huniq k ok dk hok hd hdk))]
          exact hu
  -- the operation itself
  have hrun : ∀ (hop : OpW P N o (fun l' W' => toldL o φ l' W' ∧ S W W') Q l' W), o.wpIn (FW N.ro) 0 P a W Kn (up N Q) := by
    intro hop
    refine Oper.wpIn_mono ?_ (Oper.wpIn_frame (hop a hl' hmid.good))
    rintro a' W' ⟨⟨l₁, hl₁, hgd, htd, hBW⟩, u, hu⟩
    exact hK a' W' (hstep a' W' u hu hgd (told_hold htd hl₁) hBW)
  unfold wpOpIn
  rw [ho']
  simp only []
  unfold OpG at hG
  cases hg : o.guard with
  | none =>
    rw [hg] at hG
    rw [if_pos (by simp [Region.wanted, hg])]
    exact hrun hG
  | some jb =>
    obtain ⟨j, b⟩ := jb
    rw [hg] at hG
    obtain ⟨vj, hc, hy, hn⟩ := hG
    rw [Option.bind_eq_some_iff] at hc
    obtain ⟨oj, hoj, hc⟩ := hc
    rw [Option.bind_eq_some_iff] at hc
    obtain ⟨dj, hdj, hc⟩ := hc
    have hyl : (yielded full a.tmps j == some b) = true ↔ vj = .bool b := by
      have hojf := hfull j oj hoj
      have hs := hl'.slot _ _ hc
      cases vj <;> simp [yielded, hojf, hdj, hs]
    by_cases hcb : vj = .bool b
    · rw [if_pos (by simp only [Region.wanted, hg]; exact hyl.2 hcb)]
      exact hrun (hy hcb)
    · rw [if_neg (by simp only [Region.wanted, hg]; exact fun h => hcb (hyl.1 h))]
      refine ⟨fun _ _ => trivial, hK _ W (hstep _ W undef rfl (hmid.good.step (by cases hx : o.dst <;> rfl) DK.refl (Nat.le_refl _)) ?_ (hS.refl _))⟩
      unfold toldA
      cases hd : o.dst with
      | none => exact hn hcb
      | some d =>
        have hdlt : d < a.tmps.size := by rw [hmid.base.size]; exact (hdN d hd).1
        exact ⟨undef, by simp [Act.put, hdlt], hn hcb⟩

theorem draw_anyX {S : World → World → Prop} (hS : SR S) {ops : List Oper} {Φ : List VP} {dep : List (List Nat)} {lb : Fr} (hok : drawOk N.n ops dep lb = true) (hΦ : Φ.length = ops.length) (hmono : Monos S Φ) {lx : Fr} {bx : List Fr} (hbx : BxOk ops lb lx bx) (hob : ObsX P N S ops Φ Q w ops Φ dep bx)
    (hfin : ∀ a W listed, MidX N S ops Φ lb lx w listed a W → (∀ i, i < ops.length → listed[i]? = some true) → up N Q .normal a W) :
    ∀ (fuel : Nat) (listed : Array Bool) (a : Act) (W : World), MidX N S ops Φ lb lx w listed a W → listed.size = ops.length → (listed.toList.filter (! ·)).length ≤ fuel →
      wpAnyIn (FW N.ro) 0 P .any ops.toArray (up N Q) fuel listed a W := by
  -- where nothing is ready all is done
  have hall : ∀ listed : Array Bool, listed.size = ops.length → Region.ready .any ops.toArray listed = [] → ∀ i, i < ops.length → listed[i]? = some true := by
    intro listed hs hr i
    induction i using Nat.strongRecOn with
    | _ i ih =>
      intro hi
      rcases hl : listed[i]? with _ | b
      · simp at hl; omega
      · cases b with
        | true => rfl
        | false =>
          exfalso
          have : i ∈ Region.ready .any ops.toArray listed := by
            simp only [Region.ready, List.mem_filter, List.mem_range, List.size_toArray]
            refine ⟨hi, ?_⟩
            simp only [Array.getD_eq_getD_getElem?, hl, Option.getD_some, Bool.not_false, Bool.true_and]
            have ho0 : ops[i]? = some (ops[i]'hi) := List.getElem?_eq_getElem hi
            have ho : ops.toArray[i]? = some (ops[i]'hi) := by simp
            simp only [ho, Option.map_some, Option.getD_some, Array.all_eq_true']
            intro e he
            by_cases hb : Region.binds .any e = true
            · have hlt := edges_of hok ho0 e he hb
              simp only [hb, Bool.not_true, Bool.false_or]
              rw [ih e.on hlt (by omega)]; rfl
            · simp [hb]
          rw [hr] at this
          cases this
  intro fuel
  induction fuel with
  | zero =>
    intro listed a W hmid hs hf
    have hnil : ∀ i, i < ops.length → listed[i]? = some true := by
      intro i hi
      have hfl : listed.toList.filter (! ·) = [] := List.eq_nil_of_length_eq_zero (by omega)
      rw [List.filter_eq_nil_iff] at hfl
      have hlt : i < listed.size := by omega
      have hm := hfl listed[i] (by simp)
      rw [Array.getElem?_eq_getElem hlt]
      simpa using hm
    refine ⟨?_, hfin a W listed hmid hnil⟩
    simp only [Region.ready, List.filter_eq_nil_iff, List.mem_range, List.size_toArray]
    intro i hi
    simp [Array.getD_eq_getD_getElem?, hnil i hi]
  | succ fuel ih =>
    intro listed a W hmid hs hf
    refine ⟨fun hr => hfin a W listed hmid (hall listed hs hr), ?_⟩
    intro i hi
    simp only [Region.ready, List.mem_filter, List.mem_range, List.size_toArray] at hi
    obtain ⟨hlt, hi⟩ := hi
    rw [Bool.and_eq_true] at hi
    obtain ⟨hun, hrd⟩ := hi
    have ho : ops[i]? = some (ops[i]'hlt) := List.getElem?_eq_getElem hlt
    have ho' : ops.toArray[i]? = some (ops[i]'hlt) := by simp
    have hun' : listed[i]? = some false := by
      have hlt' : i < listed.size := by omega
      rw [Array.getElem?_eq_getElem hlt']
      simp only [Array.getD_eq_getD_getElem?, Array.getElem?_eq_getElem hlt', Option.getD_some] at hun
      simpa using hun
    have hcount : ((listed.setIfInBounds i true).toList.filter (! ·)).length ≤ fuel := by
      have hlt' : i < listed.toList.length := by simp; omega
      have e1 : (listed.setIfInBounds i true).toList = listed.toList.set i true := by simp
      rw [e1]
      have e2 : listed.toList = listed.toList.take i ++ false :: listed.toList.drop (i + 1) := by
        have hg : listed.toList[i] = false := by
          have := hun'
          rw [Array.getElem?_eq_getElem (by simpa using hlt')] at this
          simpa using this
        rw [← hg, ← List.drop_eq_getElem_cons hlt']; simp
      have e3 : listed.toList.set i true = listed.toList.take i ++ true :: listed.toList.drop (i + 1) := by
        rw [List.set_eq_take_append_cons_drop, if_pos hlt']
      rw [e3]
      rw [e2] at hf
      simp only [List.filter_append, List.length_append, List.filter_cons, Bool.not_false, Bool.not_true, if_true, List.length_cons] at hf ⊢
      simp at hf ⊢
      omega
    refine mid_stepX hS hok hΦ hmono hbx hob hmid ho hun' ?_ (fun a' W' hm => ih _ a' W' hm (by simp [hs]) hcount) (fun k o h => by simpa using h)
    intro e he hb
    rw [ho'] at hrd
    simp only [Option.map_some, Option.getD_some, Array.all_eq_true'] at hrd
    have := hrd e he
    simp only [hb, Bool.not_true, Bool.false_or] at this
    rcases hlj : listed[e.on]? with _ | b
    · simp [Array.getD_eq_getD_getElem?, hlj] at this
    · simp [Array.getD_eq_getD_getElem?, hlj] at this; rw [this]

theorem text_anyX {S : World → World → Prop} (hS : SR S) {ops : List Oper} {Φ : List VP} {dep : List (List Nat)} {lb : Fr} (hok : drawOk N.n ops dep lb = true) (hΦ : Φ.length = ops.length) (hmono : Monos S Φ) {lx : Fr} {bx : List Fr} (hbx : BxOk ops lb lx bx) (hob : ObsX P N S ops Φ Q w ops Φ dep bx)
    (hfin : ∀ a W listed, MidX N S ops Φ lb lx w listed a W → (∀ i, i < ops.length → listed[i]? = some true) → up N Q .normal a W) :
    ∀ (m k : Nat) (listed : Array Bool) (a : Act) (W : World), k + m = ops.length → MidX N S ops Φ lb lx w listed a W → listed.size = ops.length → (∀ j, j < k → listed[j]? = some true) → (∀ j, k ≤ j → j < ops.length → listed[j]? = some false) →
      wpOpsIn (FW N.ro) 0 P ops.toArray (up N Q) (List.range' k m) a W := by
  intro m
  induction m with
  | zero =>
    intro k listed a W hk hmid hs hl hf
    exact hfin a W listed hmid (fun i hi => hl i (by omega))
  | succ m ih =>
    intro k listed a W hk hmid hs hl hf
    rw [List.range'_succ, wpOpsIn_cons]
    have ho : ops[k]? = some (ops[k]'(by omega)) := List.getElem?_eq_getElem (by omega)
    refine mid_stepX hS hok hΦ hmono hbx hob hmid ho (hf k (Nat.le_refl _) (by omega)) (fun e he hb => hl _ (edges_of hok ho e he hb)) (fun a' W' hm => ih (k + 1) _ a' W' (by omega) hm (by simp [hs]) ?_ (fun j hj hj2 => by rw [Array.getElem?_setIfInBounds_ne (by omega)]; exact hf j (by omega) hj2)) (fun k o h => by simpa using h)
    intro j hj
    by_cases e : k = j
    · subst e
      rw [Array.getElem?_setIfInBounds_self_of_lt (by omega)]
    · rw [Array.getElem?_setIfInBounds_ne e]
      exact hl j (by omega)


theorem live_toldX {S : World → World → Prop} {ops : List Oper} {Φ : List VP} {lb lx : Fr} {listed : Array Bool} {a' : Act} {W : World} {m : Nat} {live : List Nat} (hmid : MidX N S ops Φ lb lx w listed a' W) (hml : m ≤ ops.length) (hΦ : m ≤ Φ.length) (hlive : (live.all fun i => Nat.blt i m) = true) (hall : ∀ i, i < m → listed[i]? = some true) :
    ∀ p ∈ depAt ops Φ live, toldP p a' W := by
  intro p hp
  simp only [depAt, List.mem_map] at hp
  obtain ⟨j, hjm, rfl⟩ := hp
  have hjlt : j < m := by
    rw [List.all_eq_true] at hlive
    simpa using hlive j hjm
  have hoj : ops[j]? = some (ops[j]'(by omega)) := List.getElem?_eq_getElem (by omega)
  have hφj : Φ[j]? = some (Φ[j]'(by omega)) := List.getElem?_eq_getElem (by omega)
  exact told_dep hoj hφj (hmid.done j _ _ hoj hφj (hall j hjlt))
theorem wc_drawX {S : World → World → Prop} (hS : SR S) {id : Nat} {ops : List Oper} (hm : P.follows .mixedOrders = true) (lb lx : Fr) (bx : List Fr) (hlb : Sub lb l) (hlx : Sub lx l) (Φ : List VP) (dep : List (List Nat)) (live : List Nat)
    (hok : drawOk N.n ops dep lb = true) (hbx : BxOk ops lb lx bx) (hΦ : Nat.beq Φ.length ops.length = true) (hlive : (live.all fun i => Nat.blt i ops.length) = true) (hmono : Monos S Φ) (hob : ObsX P N S ops Φ Q w ops Φ dep bx)
    (hfin : ∀ W, S w W → Gather (depAt ops Φ live) lb W fun l' => Q .normal l' W) : WC P N (.region id ops.toArray true) Q l w := by
  intro a ha hg
  refine wpIn_region_any hm ?_
  have hΦ' := Nat.eq_of_beq_eq_true hΦ
  refine draw_anyX hS (w := { w with drawn := w.drawn + 1 }) hok hΦ' hmono hbx (hob.drawn hS) ?_ _ _ _ _ ?_ (by simp) ?_
  · intro a' W listed hmid hall
    exact gather_up hmid.good (Gather.use (hfin W (hS.drawn _ _ _ hmid.below)) hmid.base (live_toldX hmid (Nat.le_refl _) (by omega) hlive hall))
  · refine ⟨hS.refl _, ha.sub hlb, fun t v h _ => (ha.sub hlx).slot t v h, hg.step rfl (fun _ _ h _ _ => h) (Nat.le_refl _), ?_, ?_⟩
    · intro i o φ _ _ hi
      simp [Array.getElem?_replicate] at hi
    · intro i o _ hi
      simp [Array.getElem?_replicate] at hi
  · simp
theorem wc_textX {S : World → World → Prop} (hS : SR S) {id : Nat} {ops : List Oper} (lb lx : Fr) (bx : List Fr) (hlb : Sub lb l) (hlx : Sub lx l) (Φ : List VP) (dep : List (List Nat)) (live : List Nat)
    (hok : drawOk N.n ops dep lb = true) (hbx : BxOk ops lb lx bx) (hΦ : Nat.beq Φ.length ops.length = true) (hlive : (live.all fun i => Nat.blt i ops.length) = true) (hmono : Monos S Φ) (hob : ObsX P N S ops Φ Q w ops Φ dep bx)
    (hfin : ∀ W, S w W → Gather (depAt ops Φ live) lb W fun l' => Q .normal l' W) : WC P N (.region id ops.toArray false) Q l w := by
  intro a ha hg
  refine wpIn_region ?_
  have hΦ' := Nat.eq_of_beq_eq_true hΦ
  rw [List.range_eq_range', List.size_toArray]
  refine text_anyX hS hok hΦ' hmono hbx hob ?_ ops.length 0 (Array.replicate ops.length false) a w (by simp) ⟨hS.refl _, ha.sub hlb, fun t v h _ => (ha.sub hlx).slot t v h, hg, ?_, ?_⟩ (by simp) (fun j hj => absurd hj (by omega)) (fun j _ hj => by simp [Array.getElem?_replicate, hj])
  · intro a' W listed hmid hall
    exact gather_up hmid.good (Gather.use (hfin W hmid.below) hmid.base (live_toldX hmid (Nat.le_refl _) (by omega) hlive hall))
  · intro i o φ _ _ hi
    simp [Array.getElem?_replicate] at hi
  · intro i o _ hi
    simp [Array.getElem?_replicate] at hi
end
end Go.Eng
namespace Go
section
variable {P : Program} {b : Frame} {a : Act} {k : List Item} {cs : List Frame} {w : World} {Q : Exit → Act → World → Prop} {F : Fence} {n : Nat}
theorem stepR_scope {c : Code} : step P (lone (b.atR a (.code (.scope c) :: k)) cs w) = .next (lone (b.atR a (.code c :: .inScope c :: k)) cs w) :=
  step_lone_go (by simp [stepG, stepG.exec, Frame.atR])
theorem stepR_inScope {c : Code} : step P (lone (b.atR a (.inScope c :: k)) cs w) = .next (lone (b.atR a k) cs w) :=
  step_lone_go (by simp [stepG, stepG.exec, Frame.atR])
theorem wpIn_scope {c : Code} (h : c.wpIn F n P (Exit.noGoto Q) a w) : (Code.scope c).wpIn F n P Q a w := by
  intro b k cs hro hb hr
  have h0 : (lone (b.atR a (.code (.scope c) :: k)) cs w).fenced P F := fenced_calm hb hr rfl
  obtain ⟨e, a₁, w₁, hq, harr⟩ := h b (.inScope c :: k) cs hro hb hr
  cases e with
  | normal => exact ⟨.normal, a₁, w₁, hq, (StepsIn.head h0 stepR_scope (StepsIn.trans harr (.one (fenced_calm hb hr rfl) stepR_inScope)))⟩
  | exit id => exact ⟨.exit id, a₁, w₁, hq, .of_steps (.one h0 stepR_scope) ⟨fun k' hk => harr.1 k' (by simpa [exitTo] using hk), fun h1 h2 => harr.2 h1 (by simpa [exitTo] using h2)⟩⟩
  | goto l => exact hq.elim
  | ret => exact ⟨_, a₁, w₁, hq, .of_steps (.one h0 stepR_scope) harr⟩
  | panic ch => exact ⟨_, a₁, w₁, hq, .of_steps (.one h0 stepR_scope) harr⟩
  | outgrown => exact ⟨_, a₁, w₁, hq, .of_steps (.one h0 stepR_scope) harr⟩
end
end Go
namespace Go.Ab
open Go.RowKit Go.Shelf Go.Proofs Go.Eng
def noGoto (Q : APost) : APost
  | .goto _, _ => False
  | e, st => Q e st
theorem awc_scope_ {P : Program} {N : Ev} {X : Cx} {c : Code} {Q : APost} {st : AS} (h : AWC P N X c (noGoto Q) st) : AWC P N X (.scope c) Q st := by
  intro fr w m ρ φ hc a ha hg
  refine wpIn_scope (wpIn_mono (h fr w m ρ φ hc a ha hg) ?_)
  rintro e a' w' ⟨l', h1, h2, st', m', ρ', φ', h3, h4⟩
  cases e with
  | goto l => exact h4.elim
  | _ => exact ⟨l', h1, h2, st', m', ρ', φ', h3, h4⟩
theorem nogoto_norm {Q : APost} {st : AS} (h : Q .normal st) : noGoto Q .normal st := h
theorem nogoto_ret {Q : APost} {st : AS} (h : Q .ret st) : noGoto Q .ret st := h
theorem nogoto_exit {Q : APost} {st : AS} {i : Nat} (h : Q (.exit i) st) : noGoto Q (.exit i) st := h
end Go.Ab
namespace Go.Ab
open Go.RowKit Go.Shelf Go.Proofs Go.Eng
theorem sub_look : ∀ {l fr : Fr} {t : Nat}, Sub l fr → t ∈ l.map (·.1) → l.look t = fr.look t := by
  intro l
  induction l with
  | nil => intro fr t _ h; simp at h
  | cons p l ih =>
    intro fr t hs h
    obtain ⟨q, v⟩ := p
    rw [Fr.look_cons]
    split
    · rename_i e; subst e; exact hs.1.symm
    · rename_i e
      refine ih hs.2 ?_
      simp only [List.map_cons, List.mem_cons] at h
      rcases h with h | h
      · exact absurd h.symm e
      · exact h
theorem look_key : ∀ {l : Fr} {t : Nat} {v : Value}, l.look t = some v → t ∈ l.map (·.1) := by
  intro l t v h
  have h2 := look_keys (l := l) (d := t)
  rw [h] at h2
  simp only [Option.isNone_some] at h2
  have : memB t (l.map (·.1)) = true := by
    cases hb : memB t (l.map (·.1)) with
    | true => rfl
    | false => rw [hb] at h2; cases h2
  exact memB_iff.1 this
section
variable {P : Program} {N : Ev} {X : Cx} {Q : APost} {st : AS}
theorem keep_all {fr : Fr} {w : World} {m : Mem} {ρ : List Value} {φ : List Frag} (hc : Conc X st fr w m ρ φ) : ∀ {bs : List (List Nat)}, (bs.all fun ks => ks.all fun t => (st.l.look t).isSome) = true → ∃ fs : List Fr, fs.length = bs.length ∧ ∀ (i : Nat) (f : Fr) (ks : List Nat), fs[i]? = some f → bs[i]? = some ks → f.map (·.1) = ks ∧ Sub f fr ∧ Conc X ⟨keepF st.l ks, st.H, st.n⟩ f w m ρ φ := by
  intro bs
  induction bs with
  | nil => intro _; exact ⟨[], rfl, fun i f ks h => by simp at h⟩
  | cons b bs ih =>
    intro h
    simp only [List.all_cons, Bool.and_eq_true] at h
    obtain ⟨fs, h1, h2⟩ := ih h.2
    obtain ⟨f, h3⟩ := keep_conc hc h.1
    refine ⟨f :: fs, by simp [h1], fun i f' ks hf hk => ?_⟩
    cases i with
    | zero => simp at hf hk; subst hf hk; exact h3
    | succ i => exact h2 i f' ks (by simpa using hf) (by simpa using hk)

/-- What is owed of all operations, each with its own base. -/
def AObsX (P : Program) (N : Ev) (X : Cx) (ops : List Oper) (Ts : List TT) (l : AFr) (H : AH) (n : Nat) : List Oper → List TT → List (List Nat) → List (List Nat) → Prop
  | o :: os, T :: r, js :: jss, b :: bs => AOb P N X ops Ts (keepF l b) H n o T js ∧ AObsX P N X ops Ts l H n os r jss bs
  | [], [], [], [] => True
  | _, _, _, _ => False
theorem obs_ofX {ops : List Oper} {Ts : List TT} {l : AFr} {H : AH} {n : Nat} {w : World} {m : Mem} {ρ : List Value} {φ : List Frag} {Q' : Post} (hl : Ts.length = ops.length) : ∀ {os : List Oper} {r : List TT} {jss bs : List (List Nat)} {fs : List Fr}, depsOk ops jss = true → (∀ (i : Nat) (f : Fr) (ks : List Nat), fs[i]? = some f → bs[i]? = some ks → Conc X ⟨keepF l ks, H, n⟩ f w m ρ φ) → AObsX P N X ops Ts l H n os r jss bs →
    ObsX P N (fun w W => Below w.heap.size w W) ops (Ts.map (phi X.e m ρ (φ.flatten ++ X.F))) Q' w os (r.map (phi X.e m ρ (φ.flatten ++ X.F))) jss fs := by
  intro os
  induction os with
  | nil => intro r jss bs fs _ _ h; unfold ObsX; trivial
  | cons o os ih =>
    intro r jss bs fs hd hc h
    cases r with
    | nil => cases jss <;> trivial
    | cons T r => cases jss with
      | nil => trivial
      | cons js jss => cases fs with
        | nil => trivial
        | cons f fs => cases bs with
          | nil => exact h.elim
          | cons b bs =>
            simp only [depsOk, List.all_cons, Bool.and_eq_true] at hd
            refine ⟨fun W hW => ?_, ih hd.2 (fun i f' ks hf hk => hc (i + 1) f' ks (by simpa using hf) (by simpa using hk)) h.2⟩
            have hcc := hc 0 f b rfl rfl
            exact gather_df (phi_at hl) hd.1 fun l' hl' => h.1 Q' f W m m ρ φ (Mem.le_refl _) (hcc.grow (Mem.le_refl _) (hcc.sh.ext hW)) l' hl'

def bxOkB (ops : List Oper) (ks kx : List Nat) (bx : List (List Nat)) : Bool := Nat.beq bx.length ops.length && (bx.zipIdx).all fun (b, i) => b.all fun t => memB t ks || (memB t kx && lateB ops i t)
theorem bx_of {fr : Fr} {ops : List Oper} {ks kx : List Nat} {bx : List (List Nat)} {lb lx : Fr} {fs : List Fr} (h : bxOkB ops ks kx bx = true) (h1 : lb.map (·.1) = ks) (h2 : Sub lb fr) (h3 : lx.map (·.1) = kx) (h4 : Sub lx fr) (h5 : fs.length = bx.length) (h6 : ∀ (i : Nat) (f : Fr) (ks : List Nat), fs[i]? = some f → bx[i]? = some ks → f.map (·.1) = ks ∧ Sub f fr) : BxOk ops lb lx fs := by
  simp only [bxOkB, Bool.and_eq_true, List.all_eq_true] at h
  obtain ⟨ha, hb⟩ := h
  refine ⟨by rw [h5]; exact Nat.eq_of_beq_eq_true ha, fun i f hf t v ht => ?_⟩
  have hil := (List.getElem?_eq_some_iff.1 hf).1
  have hbi : bx[i]? = some (bx[i]'(by omega)) := List.getElem?_eq_getElem (by omega)
  obtain ⟨g1, g2⟩ := h6 i f _ hf hbi
  have hk := look_key ht
  have hfr : fr.look t = some v := by rw [← sub_look g2 hk]; exact ht
  rw [g1] at hk
  have hz := hb (bx[i]'(by omega), i) (by rw [List.mem_zipIdx_iff_getElem?]; simp [hbi]) t hk
  rw [Bool.or_eq_true, Bool.and_eq_true] at hz
  rcases hz with hz | ⟨hz, hl⟩
  · left
    rw [sub_look h2 (by rw [h1]; exact memB_iff.1 hz)]; exact hfr
  · right
    exact ⟨by rw [sub_look h4 (by rw [h3]; exact memB_iff.1 hz)]; exact hfr, hl⟩

/-- A region whose order is drawn, in which slots are read that are written behind. -/
theorem awc_drawX {id : Nat} {ops : List Oper} (hm : P.follows .mixedOrders = true) (ks kx : List Nat) (bx : List (List Nat)) (Ts : List TT) (dep : List (List Nat)) (live : List Nat) (hks : ((ks :: kx :: bx).all fun ks => ks.all fun t => (st.l.look t).isSome) = true) (hbx : bxOkB ops ks kx bx = true) (hok : drawOkK N.n ops dep ks = true) (hTs : Nat.beq Ts.length ops.length = true) (hlv : (live.all fun i => Nat.blt i ops.length) = true) (hdp : depsOk ops (live :: dep) = true)
    (hob : AObsX P N X ops Ts st.l st.H st.n ops Ts dep bx) (hall : ∀ j ∈ live, (ttAt Ts j).1 = true) (k : Q .normal ⟨depF ops Ts live (keepF st.l ks), st.H, st.n⟩) : AWC P N X (.region id ops.toArray true) Q st := by
  intro fr w m ρ φ hc
  simp only [List.all_cons, Bool.and_eq_true] at hks
  obtain ⟨lb, h1, h2, h3⟩ := keep_conc hc hks.1
  obtain ⟨lx, g1, g2, _⟩ := keep_conc hc hks.2.1
  obtain ⟨fs, f1, f2⟩ := keep_all hc hks.2.2
  have hl := Nat.eq_of_beq_eq_true hTs
  simp only [depsOk, List.all_cons, Bool.and_eq_true] at hdp
  refine wc_drawX sr_below hm lb lx fs h2 g2 (Ts.map (phi X.e m ρ (φ.flatten ++ X.F))) dep live (draw_keys (by rw [h1]; exact hok)) (bx_of hbx h1 h2 g1 g2 f1 (fun i f ks hf hk => ⟨(f2 i f ks hf hk).1, (f2 i f ks hf hk).2.1⟩)) (by rw [List.length_map]; exact hTs) hlv (monos_phi Ts) (obs_ofX hl hdp.2 (fun i f ks hf hk => (f2 i f ks hf hk).2.2) hob) ?_
  intro W hW
  refine gather_df (phi_at hl) hdp.1 fun l' hl' => ?_
  obtain ⟨m', h4, h5⟩ := conc_df hl' (Mem.le_refl _) (h3.grow (Mem.le_refl _) (h3.sh.ext hW)) hall
  exact ⟨_, m', ρ, φ, h5, k⟩
theorem awc_textX {id : Nat} {ops : List Oper} (ks kx : List Nat) (bx : List (List Nat)) (Ts : List TT) (dep : List (List Nat)) (live : List Nat) (hks : ((ks :: kx :: bx).all fun ks => ks.all fun t => (st.l.look t).isSome) = true) (hbx : bxOkB ops ks kx bx = true) (hok : drawOkK N.n ops dep ks = true) (hTs : Nat.beq Ts.length ops.length = true) (hlv : (live.all fun i => Nat.blt i ops.length) = true) (hdp : depsOk ops (live :: dep) = true)
    (hob : AObsX P N X ops Ts st.l st.H st.n ops Ts dep bx) (hall : ∀ j ∈ live, (ttAt Ts j).1 = true) (k : Q .normal ⟨depF ops Ts live (keepF st.l ks), st.H, st.n⟩) : AWC P N X (.region id ops.toArray false) Q st := by
  intro fr w m ρ φ hc
  simp only [List.all_cons, Bool.and_eq_true] at hks
  obtain ⟨lb, h1, h2, h3⟩ := keep_conc hc hks.1
  obtain ⟨lx, g1, g2, _⟩ := keep_conc hc hks.2.1
  obtain ⟨fs, f1, f2⟩ := keep_all hc hks.2.2
  have hl := Nat.eq_of_beq_eq_true hTs
  simp only [depsOk, List.all_cons, Bool.and_eq_true] at hdp
  refine wc_textX sr_below lb lx fs h2 g2 (Ts.map (phi X.e m ρ (φ.flatten ++ X.F))) dep live (draw_keys (by rw [h1]; exact hok)) (bx_of hbx h1 h2 g1 g2 f1 (fun i f ks hf hk => ⟨(f2 i f ks hf hk).1, (f2 i f ks hf hk).2.1⟩)) (by rw [List.length_map]; exact hTs) hlv (monos_phi Ts) (obs_ofX hl hdp.2 (fun i f ks hf hk => (f2 i f ks hf hk).2.2) hob) ?_
  intro W hW
  refine gather_df (phi_at hl) hdp.1 fun l' hl' => ?_
  obtain ⟨m', h4, h5⟩ := conc_df hl' (Mem.le_refl _) (h3.grow (Mem.le_refl _) (h3.sh.ext hW)) hall
  exact ⟨_, m', ρ, φ, h5, k⟩

/-- A nil slice in a variable that the call will own. -/
theorem wk_ownC {i o : Nat} {T : TypeId} {cs : List AV} (E : TypeId) (ty : Ty) (hH : st.H.get i = .var T cs) (hi : Nat.blt i st.n = true) (ho : cs[o]? = some .nils) : Wk X st ⟨st.l, (i, .var T (cs.set o (.osl st.n))) :: (st.n, .sl E ty []) :: st.H, st.n + 1⟩ := by
  intro fr w m ρ φ hc
  have hin : i < st.n := by simpa using hi
  have h3 := hc.newObj (d := 0) (av := .any) (v := undef) (h := .slice none 0 0) (o := .sl E ty []) (f := []) (Mem.le_refl _) (by simpa using hc.sh) ⟨by simp, .inl ⟨rfl, rfl, rfl⟩⟩ (by simp only [RepA])
  refine ⟨m, _, _, h3.mle, h3.pre, h3.nρ, h3.nφ, ?_, ?_, h3.sh⟩
  · intro q a hq
    obtain ⟨v, g1, g2⟩ := hc.slots q a hq
    exact ⟨v, g1, RepA.mono (Mem.le_refl _) pre_app a g2⟩
  · intro j hd f hj hf
    rw [AH.get_cons]
    split
    · rename_i e
      subst e
      have h4 := h3.objs i hd f hj hf
      have h5 : (AS.new st 0 .any (.sl E ty [])).H.get i = .var T cs := by
        show AH.get ((st.n, _) :: st.H) i = _
        rw [AH.get_cons, if_neg (by omega)]; exact hH
      rw [h5] at h4
      obtain ⟨b, us, g1, g2, g3, g4⟩ := h4
      refine ⟨b, us, g1, g2, ?_, g4⟩
      obtain ⟨u, hu, hr⟩ := g3.get ho
      simp only [RepA] at hr
      subst hr
      have h6 := g3.set (i := o) (a := .osl st.n) (v := .slice none 0 0) (by simp only [RepA]; exact ⟨by rw [← hc.nρ]; simp, rfl⟩)
      have h7 : us.set o (.slice none 0 0) = us := by
        apply List.ext_getElem?
        intro q
        rw [List.getElem?_set]
        split
        · rename_i e; subst e; rw [hu]; simp [(List.getElem?_eq_some_iff.1 hu).1]
        · rfl
      rw [h7] at h6
      exact h6
    · exact h3.objs j hd f hj hf
end
end Go.Ab
