/- Lemmas for a law of the seat: what functions of the program do, each stated as a contract of its own (module EngD). -/
import Derived.Test.YtjagcoeihmhabaaEngC
set_option linter.unusedVariables false
set_option linter.unusedSimpArgs false
namespace Go.Eng
open Go.RowKit Go.Shelf Go.Proofs

/-! a region that draws its order: each operation's value is told by a predicate that new blocks leave as it is -/
abbrev VP := Value → World → Prop
/-- What a region's operations may do to the world. -/
structure SR (S : World → World → Prop) : Prop where
  refl : ∀ w, S w w
  trans : ∀ a b c, S a b → S b c → S a c
  drawn : ∀ w k W, S { w with drawn := k } W → S w W
def Mono (S : World → World → Prop) (φ : VP) : Prop := ∀ v W W', S W W' → φ v W → φ v W'

def dstOf (o : Oper) : Nat := o.dst.getD 0

def Gather : List (Option Nat × VP) → Fr → World → (Fr → Prop) → Prop
  | [], l, _, K => K l
  | (some d, φ) :: r, l, W, K => ∀ v, φ v W → Gather r ((d, v) :: l) W K
  | (none, φ) :: r, l, W, K => φ undef W → Gather r l W K

/-- What an operation leaves is told. -/
def toldL (o : Oper) (φ : VP) (l : Fr) (W : World) : Prop := match o.dst with
  | some d => ∃ v, l.look d = some v ∧ φ v W
  | none => φ undef W
def toldA (o : Oper) (φ : VP) (a : Act) (W : World) : Prop := match o.dst with
  | some d => ∃ v, a.tmps[d]? = some v ∧ φ v W
  | none => φ undef W
theorem told {o : Oper} {φ : VP} {l : Fr} {W : World} {d : Nat} {v : Value} (hd : o.dst = some d) (h1 : l.look d = some v) (h2 : φ v W) : toldL o φ l W := by unfold toldL; rw [hd]; exact ⟨v, h1, h2⟩
theorem told_n {o : Oper} {φ : VP} {l : Fr} {W : World} (hd : o.dst = none) (h2 : φ undef W) : toldL o φ l W := by unfold toldL; rw [hd]; exact h2

/-- One operation, its guard among it. -/
def OpG (P : Program) (N : Ev) (S : World → World → Prop) (ops : List Oper) (o : Oper) (φ : VP) (Q : Post) (l : Fr) (W : World) : Prop :=
  match o.guard with
  | none => OpW P N o (fun l' W' => toldL o φ l' W' ∧ S W W') Q l W
  | some (j, b) => ∃ vj, ((ops[j]?).bind fun o' => o'.dst.bind l.look) = some vj ∧
      (vj = .bool b → OpW P N o (fun l' W' => toldL o φ l' W' ∧ S W W') Q l W) ∧ (vj ≠ .bool b → φ undef W)

def depAt (ops : List Oper) (Φ : List VP) (js : List Nat) : List (Option Nat × VP) := js.map fun j => ((ops[j]?).bind (·.dst), (Φ[j]?).getD fun _ _ => True)

def Obs (P : Program) (N : Ev) (S : World → World → Prop) (ops : List Oper) (Φ : List VP) (Q : Post) (lb : Fr) (w : World) : List Oper → List VP → List (List Nat) → Prop
  | o :: os, φ :: φs, js :: jss => (∀ W, S w W → Gather (depAt ops Φ js) lb W fun l => OpG P N S ops o φ Q l W) ∧ Obs P N S ops Φ Q lb w os φs jss
  | _, _, _ => True

def Monos (S : World → World → Prop) : List VP → Prop
  | [] => True
  | φ :: r => Mono S φ ∧ Monos S r

def memB (a : Nat) : List Nat → Bool
  | [] => false
  | b :: l => Nat.beq a b || memB a l
def nodupB : List Nat → Bool
  | [] => true
  | a :: l => !memB a l && nodupB l
theorem memB_iff {a : Nat} {l : List Nat} : memB a l = true ↔ a ∈ l := by
  induction l with
  | nil => simp [memB]
  | cons b l ih => simp [memB, ih]
theorem nodup_of {l : List Nat} (h : nodupB l = true) : l.Nodup := by
  induction l with
  | nil => simp
  | cons a l ih =>
    simp only [nodupB, Bool.and_eq_true, Bool.not_eq_true'] at h
    refine List.nodup_cons.2 ⟨fun hm => ?_, ih h.2⟩
    rw [memB_iff.2 hm] at h
    exact absurd h.1 (by simp)

/-- Each operation has a slot of its own, which the frame does not name; what an operation asks about stands among the edges that it waits for; a guard's operation is one that is asked about. -/
def drawOk (N : Nat) (ops : List Oper) (dep : List (List Nat)) (lb : Fr) : Bool :=
  (ops.all fun o => o.dst.isNone || (Nat.blt (dstOf o) N && (lb.look (dstOf o)).isNone)) &&
  ((ops.zipIdx).all fun (o, i) => (ops.zipIdx).all fun (o', i') => Nat.beq i i' || (o.dst.isNone || (o'.dst.isNone || !Nat.beq (dstOf o) (dstOf o')))) && Nat.beq dep.length ops.length &&
  ((ops.zip dep).all fun (o, js) => js.all fun j => o.after.toList.any fun e => Region.binds .any e && Nat.beq e.on j) &&
  ((ops.zipIdx).all fun (o, i) => o.after.toList.all fun e => !Region.binds .any e || Nat.blt e.on i)

theorem gather_nil {l : Fr} {W : World} {K : Fr → Prop} (h : K l) : Gather [] l W K := h

theorem Gather.imp {ds : List (Option Nat × VP)} : ∀ {l : Fr} {W : World} {K K' : Fr → Prop}, (∀ l, K l → K' l) → Gather ds l W K → Gather ds l W K' := by
  induction ds with
  | nil => intro l W K K' h g; exact h _ g
  | cons p r ih =>
    intro l W K K' h g
    obtain ⟨d, φ⟩ := p
    cases d with
    | some d => exact fun v hv => ih h (g v hv)
    | none => exact fun hv => ih h (g hv)

section
variable {P : Program} {N : Ev} {Q : Post} {l : Fr} {w : World}

theorem Oper.wpIn_frame {F : Fence} {n : Nat} {o : Oper} {a : Act} {w : World} {K : Act → World → Prop} {Q' : Exit → Act → World → Prop} (h : o.wpIn F n P a w K Q') :
    o.wpIn F n P a w (fun a' w' => K a' w' ∧ ∃ v, a'.tmps = (a.put o.dst v).tmps) Q' := by
  unfold Oper.wpIn at *
  refine ⟨h.1, ?_⟩
  have h := h.2
  generalize (o.semAt F.round a.eval).run P w = r at *
  cases r with
  | ok n w' =>
    cases n <;> simp only [Oper.uponIn] at h ⊢ <;>
      first
        | exact ⟨h, _, rfl⟩
        | exact ⟨h.1, CallsIn.mono h.2 (fun e w'' he => by cases e <;> first | exact ⟨he, _, rfl⟩ | exact he)⟩
        | exact ⟨h.1, RowsIn.mono h.2 (fun _ _ he => ⟨he, _, rfl⟩)⟩
        | exact ⟨h.1, RoundIn.mono h.2 (fun e w'' he => by cases e <;> first | exact ⟨he, _, rfl⟩ | exact he)⟩
        | (refine ⟨h, undef, ?_⟩; cases o.dst <;> rfl)
  | halt x w' => cases x <;> simp only [Oper.uponIn] at h ⊢ <;> exact h

def toldP (p : Option Nat × VP) (a : Act) (W : World) : Prop := match p.1 with
  | some d => ∃ v, a.tmps[d]? = some v ∧ p.2 v W
  | none => p.2 undef W
theorem Gather.use {ds : List (Option Nat × VP)} : ∀ {l : Fr} {W : World} {K : Fr → Prop} {a : Act}, Gather ds l W K → Holds N l a → (∀ p ∈ ds, toldP p a W) → ∃ l', Holds N l' a ∧ K l' := by
  induction ds with
  | nil => intro l W K a g ha _; exact ⟨l, ha, g⟩
  | cons p r ih =>
    intro l W K a g ha hd
    obtain ⟨d, φ⟩ := p
    cases d with
    | none => exact ih (g (hd (none, φ) (by simp))) ha (fun p hp => hd p (by simp [hp]))
    | some d =>
    obtain ⟨v, hv, hφ⟩ := hd (some d, φ) (by simp)
    refine ih (g v hφ) ⟨ha.size, ?_⟩ (fun p hp => hd p (by simp [hp]))
    intro t u ht
    rw [Fr.look_cons] at ht
    split at ht
    · rename_i e; subst e; cases ht; exact hv
    · exact ha.slot t u ht

theorem gather_up {a : Act} {W : World} {Q : Fr → World → Prop} (hg : Good N a W) (h : ∃ l', Holds N l' a ∧ Q l' W) : ∃ l', Holds N l' a ∧ Good N a W ∧ Q l' W := let ⟨l', h1, h2⟩ := h; ⟨l', h1, hg, h2⟩

theorem told_dep {ops : List Oper} {Φ : List VP} {j : Nat} {o : Oper} {φ : VP} {a : Act} {W : World} (ho : ops[j]? = some o) (hφ : Φ[j]? = some φ) (h : toldA o φ a W) : toldP ((ops[j]?).bind (·.dst), (Φ[j]?).getD fun _ _ => True) a W := by
  rw [ho, hφ]
  unfold toldA at h
  unfold toldP
  cases hd : o.dst with
  | none => rw [hd] at h; simpa [hd] using h
  | some d => rw [hd] at h; simpa [hd] using h
theorem told_hold {o : Oper} {φ : VP} {l : Fr} {a : Act} {W : World} (h : toldL o φ l W) (hl : Holds N l a) : toldA o φ a W := by
  unfold toldL at h
  unfold toldA
  cases hd : o.dst with
  | none => rw [hd] at h; exact h
  | some d => rw [hd] at h; obtain ⟨v, h1, h2⟩ := h; exact ⟨v, hl.slot _ _ h1, h2⟩

/-- What is known between two operations. -/
structure Mid (N : Ev) (S : World → World → Prop) (ops : List Oper) (Φ : List VP) (lb : Fr) (w : World) (listed : Array Bool) (a : Act) (W : World) : Prop where
  below : S w W
  base : Holds N lb a
  good : Good N a W
  done : ∀ (i : Nat) (o : Oper) (φ : VP), ops[i]? = some o → Φ[i]? = some φ → listed[i]? = some true → toldA o φ a W

theorem Obs.at {S : World → World → Prop} {ops : List Oper} {Φ : List VP} {lb : Fr} {os : List Oper} : ∀ {φs : List VP} {jss : List (List Nat)}, Obs P N S ops Φ Q lb w os φs jss → ∀ {i : Nat} {o : Oper} {φ : VP} {js : List Nat}, os[i]? = some o → φs[i]? = some φ → jss[i]? = some js →
    ∀ W, S w W → Gather (depAt ops Φ js) lb W fun l => OpG P N S ops o φ Q l W := by
  induction os with
  | nil => intro φs jss _ i o φ js h; simp at h
  | cons o' os ih =>
    intro φs jss h i o φ js h1 h2 h3
    cases φs with
    | nil => simp at h2
    | cons φ' φs =>
      cases jss with
      | nil => simp at h3
      | cons js' jss =>
        cases i with
        | zero => simp at h1 h2 h3; subst h1 h2 h3; exact h.1
        | succ i => simp at h1 h2 h3; exact ih h.2 h1 h2 h3

theorem Monos.at {S : World → World → Prop} {Φ : List VP} (h : Monos S Φ) : ∀ {i : Nat} {φ : VP}, Φ[i]? = some φ → Mono S φ := by
  induction Φ with
  | nil => intro i φ h; simp at h
  | cons φ' Φ ih =>
    intro i φ hi
    cases i with
    | zero => simp at hi; subst hi; exact h.1
    | succ i => simp at hi; exact ih h.2 hi

theorem edges_of {N : Nat} {ops : List Oper} {dep : List (List Nat)} {lb : Fr} (hok : drawOk N ops dep lb = true) {i : Nat} {o : Oper} (ho : ops[i]? = some o) : ∀ e ∈ o.after, Region.binds .any e = true → e.on < i := by
  simp only [drawOk, Bool.and_eq_true, List.all_eq_true] at hok
  obtain ⟨⟨⟨⟨h1, h2'⟩, h3⟩, h4⟩, h5⟩ := hok
  intro e he hb
  have := h5 (o, i) (by rw [List.mem_zipIdx_iff_getElem?]; simpa using ho)
  simp only [List.all_eq_true] at this
  have hx := this e (Array.mem_toList_iff.2 he)
  simpa [hb] using hx

theorem mid_step {S : World → World → Prop} (hS : SR S) {ops : List Oper} {Φ : List VP} {dep : List (List Nat)} {lb : Fr} (hok : drawOk N.n ops dep lb = true) (hΦ : Φ.length = ops.length) (hmono : Monos S Φ) (hob : Obs P N S ops Φ Q lb w ops Φ dep)
    {listed : Array Bool} {a : Act} {W : World} (hmid : Mid N S ops Φ lb w listed a W) {i : Nat} {o : Oper} (ho : ops[i]? = some o)
    (hrd : ∀ e ∈ o.after, Region.binds .any e = true → listed[e.on]? = some true) {Kn : Act → World → Prop} (hK : ∀ a' W', Mid N S ops Φ lb w (listed.setIfInBounds i true) a' W' → Kn a' W')
    {full : Array Oper} (hfull : ∀ (k : Nat) (o : Oper), ops[k]? = some o → full[k]? = some o) : wpOpIn (FW N.ro) 0 P full (up N Q) i Kn a W := by
  have hok0 := hok
  simp only [drawOk, Bool.and_eq_true, List.all_eq_true] at hok
  obtain ⟨⟨⟨⟨h1, h2'⟩, h3⟩, h4⟩, h5⟩ := hok
  have hlt : i < ops.length := (List.getElem?_eq_some_iff.1 ho).1
  have ho' : full[i]? = some o := hfull i o ho
  have hφl : i < Φ.length := by omega
  have hφ : Φ[i]? = some (Φ[i]'hφl) := List.getElem?_eq_getElem hφl
  generalize hφφ : Φ[i]'hφl = φ at *
  have hdl : i < dep.length := by have := Nat.eq_of_beq_eq_true h3; omega
  have hj : dep[i]? = some (dep[i]'hdl) := List.getElem?_eq_getElem hdl
  generalize hjj : dep[i]'hdl = js at *
  have hdst := h1 o (List.mem_of_getElem? ho)
  have hdN : ∀ d, o.dst = some d → d < N.n ∧ lb.look d = none := by
    intro d hd
    simp [hd, dstOf] at hdst
    exact hdst
  have huniq : ∀ (k : Nat) (ok : Oper) (d : Nat), ops[k]? = some ok → o.dst = some d → ok.dst = some d → i = k := by
    intro k ok d hk hd hdk
    have hz := h2' (o, i) (by rw [List.mem_zipIdx_iff_getElem?]; simpa using ho)
    have hz2 := hz (ok, k) (by rw [List.mem_zipIdx_iff_getElem?]; simpa using hk)
    simpa [hd, hdk, dstOf] using hz2
  -- what the operation asks about is done
  have hdeps : ∀ p ∈ depAt ops Φ js, toldP p a W := by
    intro p hp
    simp only [depAt, List.mem_map] at hp
    obtain ⟨j, hjm, rfl⟩ := hp
    have hz := h4 (o, js) (by
      refine List.mem_of_getElem? (i := i) ?_
      rw [List.getElem?_zip_eq_some]; exact ⟨ho, hj⟩)
    have hz' := hz j hjm
    rw [List.any_eq_true] at hz'
    obtain ⟨e, he, hb⟩ := hz'
    have he := Array.mem_toList_iff.1 he
    rw [Bool.and_eq_true] at hb
    have hej : e.on = j := Nat.eq_of_beq_eq_true hb.2
    have hL' : listed[j]? = some true := by rw [← hej]; exact hrd e he hb.1
    have hjlt : j < ops.length := by
      have := edges_of hok0 ho e he hb.1; omega
    have hoj : ops[j]? = some (ops[j]'hjlt) := List.getElem?_eq_getElem hjlt
    have hφj : Φ[j]? = some (Φ[j]'(by omega)) := List.getElem?_eq_getElem (by omega)
    have := hmid.done j _ _ hoj hφj hL'
    exact told_dep hoj hφj this
  obtain ⟨l', hl', hG⟩ := Gather.use (hob.at ho hφ hj W hmid.below) hmid.base hdeps
  -- what holds behind the operation
  have hstep : ∀ (a' : Act) (W' : World) (v : Value), a'.tmps = (a.put o.dst v).tmps → Good N a' W' → toldA o φ a' W' → S W W' → Mid N S ops Φ lb w (listed.setIfInBounds i true) a' W' := by
    intro a' W' v ht hdf hφv hBW
    have hget : ∀ t, o.dst ≠ some t → a'.tmps[t]? = a.tmps[t]? := by
      intro t hne
      rw [ht]
      cases hd : o.dst with
      | none => rfl
      | some d =>
        rw [hd] at hne
        simp only [Act.put, Array.getElem?_setIfInBounds_ne (fun e : d = t => hne (by rw [e]))]
    refine ⟨hS.trans _ _ _ hmid.below hBW, ⟨?_, ?_⟩, hdf, ?_⟩
    · rw [ht]; cases o.dst <;> simp [Act.put, hmid.base.size]
    · intro t u htu
      rw [hget t (fun hd => by have := (hdN t hd).2; rw [htu] at this; cases this)]
      exact hmid.base.slot t u htu
    · intro k ok φk hok hφk hlk
      by_cases hik : i = k
      · subst hik
        rw [ho] at hok; cases hok
        rw [hφ] at hφk; cases hφk
        exact hφv
      · have hlk' : listed[k]? = some true := by
          rwa [Array.getElem?_setIfInBounds_ne hik] at hlk
        have hdn := hmid.done k ok φk hok hφk hlk'
        unfold toldA at hdn ⊢
        cases hdk : ok.dst with
        | none => rw [hdk] at hdn; exact hmono.at hφk undef W W' hBW hdn
        | some dk =>
          rw [hdk] at hdn
          obtain ⟨u, hu, hφu⟩ := hdn
          refine ⟨u, ?_, hmono.at hφk u W W' hBW hφu⟩
          rw [hget dk (fun hd => hik (huniq k ok dk hok hd hdk))]
          exact hu
  -- the operation itself
  have hrun : ∀ (hop : OpW P N o (fun l' W' => toldL o φ l' W' ∧ S W W') Q l' W), o.wpIn (FW N.ro) 0 P a W Kn (up N Q) := by
    intro hop
    refine Oper.wpIn_mono ?_ (Oper.wpIn_frame (hop a hl' hmid.good))
    rintro a' W' ⟨⟨l₁, hl₁, hgd, htd, hBW⟩, u, hu⟩
    exact hK a' W' (hstep a' W' u hu hgd (told_hold htd hl₁) hBW)
  unfold wpOpIn
  rw [ho']
  simp only []
  unfold OpG at hG
  cases hg : o.guard with
  | none =>
    rw [hg] at hG
    rw [if_pos (by simp [Region.wanted, hg])]
    exact hrun hG
  | some jb =>
    obtain ⟨j, b⟩ := jb
    rw [hg] at hG
    obtain ⟨vj, hc, hy, hn⟩ := hG
    rw [Option.bind_eq_some_iff] at hc
    obtain ⟨oj, hoj, hc⟩ := hc
    rw [Option.bind_eq_some_iff] at hc
    obtain ⟨dj, hdj, hc⟩ := hc
    have hyl : (yielded full a.tmps j == some b) = true ↔ vj = .bool b := by
      have hojf := hfull j oj hoj
      have hs := hl'.slot _ _ hc
      cases vj <;> simp [yielded, hojf, hdj, hs]
    by_cases hcb : vj = .bool b
    · rw [if_pos (by simp only [Region.wanted, hg]; exact hyl.2 hcb)]
      exact hrun (hy hcb)
    · rw [if_neg (by simp only [Region.wanted, hg]; exact fun h => hcb (hyl.1 h))]
      refine ⟨fun _ _ => trivial, hK _ W (hstep _ W undef rfl (hmid.good.step (by cases hx : o.dst <;> rfl) DK.refl (Nat.le_refl _)) ?_ (hS.refl _))⟩
      unfold toldA
      cases hd : o.dst with
      | none => exact hn hcb
      | some d =>
        have hdlt : d < a.tmps.size := by rw [hmid.base.size]; exact (hdN d hd).1
        exact ⟨undef, by simp [Act.put, hdlt], hn hcb⟩

theorem draw_any {S : World → World → Prop} (hS : SR S) {ops : List Oper} {Φ : List VP} {dep : List (List Nat)} {lb : Fr} (hok : drawOk N.n ops dep lb = true) (hΦ : Φ.length = ops.length) (hmono : Monos S Φ) (hob : Obs P N S ops Φ Q lb w ops Φ dep)
    (hfin : ∀ a W listed, Mid N S ops Φ lb w listed a W → (∀ i, i < ops.length → listed[i]? = some true) → up N Q .normal a W) :
    ∀ (fuel : Nat) (listed : Array Bool) (a : Act) (W : World), Mid N S ops Φ lb w listed a W → listed.size = ops.length → (listed.toList.filter (! ·)).length ≤ fuel →
      wpAnyIn (FW N.ro) 0 P .any ops.toArray (up N Q) fuel listed a W := by
  -- where nothing is ready all is done
  have hall : ∀ listed : Array Bool, listed.size = ops.length → Region.ready .any ops.toArray listed = [] → ∀ i, i < ops.length → listed[i]? = some true := by
    intro listed hs hr i
    induction i using Nat.strongRecOn with
    | _ i ih =>
      intro hi
      rcases hl : listed[i]? with _ | b
      · simp at hl; omega
      · cases b with
        | true => rfl
        | false =>
          exfalso
          have : i ∈ Region.ready .any ops.toArray listed := by
            simp only [Region.ready, List.mem_filter, List.mem_range, List.size_toArray]
            refine ⟨hi, ?_⟩
            simp only [Array.getD_eq_getD_getElem?, hl, Option.getD_some, Bool.not_false, Bool.true_and]
            have ho0 : ops[i]? = some (ops[i]'hi) := List.getElem?_eq_getElem hi
            have ho : ops.toArray[i]? = some (ops[i]'hi) := by simp
            simp only [ho, Option.map_some, Option.getD_some, Array.all_eq_true']
            intro e he
            by_cases hb : Region.binds .any e = true
            · have hlt := edges_of hok ho0 e he hb
              simp only [hb, Bool.not_true, Bool.false_or]
              rw [ih e.on hlt (by omega)]; rfl
            · simp [hb]
          rw [hr] at this
          cases this
  intro fuel
  induction fuel with
  | zero =>
    intro listed a W hmid hs hf
    have hnil : ∀ i, i < ops.length → listed[i]? = some true := by
      intro i hi
      have hfl : listed.toList.filter (! ·) = [] := List.eq_nil_of_length_eq_zero (by omega)
      rw [List.filter_eq_nil_iff] at hfl
      have hlt : i < listed.size := by omega
      have hm := hfl listed[i] (by simp)
      rw [Array.getElem?_eq_getElem hlt]
      simpa using hm
    refine ⟨?_, hfin a W listed hmid hnil⟩
    simp only [Region.ready, List.filter_eq_nil_iff, List.mem_range, List.size_toArray]
    intro i hi
    simp [Array.getD_eq_getD_getElem?, hnil i hi]
  | succ fuel ih =>
    intro listed a W hmid hs hf
    refine ⟨fun hr => hfin a W listed hmid (hall listed hs hr), ?_⟩
    intro i hi
    simp only [Region.ready, List.mem_filter, List.mem_range, List.size_toArray] at hi
    obtain ⟨hlt, hi⟩ := hi
    rw [Bool.and_eq_true] at hi
    obtain ⟨hun, hrd⟩ := hi
    have ho : ops[i]? = some (ops[i]'hlt) := List.getElem?_eq_getElem hlt
    have ho' : ops.toArray[i]? = some (ops[i]'hlt) := by simp
    have hun' : listed[i]? = some false := by
      have hlt' : i < listed.size := by omega
      rw [Array.getElem?_eq_getElem hlt']
      simp only [Array.getD_eq_getD_getElem?, Array.getElem?_eq_getElem hlt', Option.getD_some] at hun
      simpa using hun
    have hcount : ((listed.setIfInBounds i true).toList.filter (! ·)).length ≤ fuel := by
      have hlt' : i < listed.toList.length := by simp; omega
      have e1 : (listed.setIfInBounds i true).toList = listed.toList.set i true := by simp
      rw [e1]
      have e2 : listed.toList = listed.toList.take i ++ false :: listed.toList.drop (i + 1) := by
        have hg : listed.toList[i] = false := by
          have := hun'
          rw [Array.getElem?_eq_getElem (by simpa using hlt')] at this
          simpa using this
        rw [← hg, ← List.drop_eq_getElem_cons hlt']; simp
      have e3 : listed.toList.set i true = listed.toList.take i ++ true :: listed.toList.drop (i + 1) := by
        rw [List.set_eq_take_append_cons_drop, if_pos hlt']
      rw [e3]
      rw [e2] at hf
      simp only [List.filter_append, List.length_append, List.filter_cons, Bool.not_false, Bool.not_true, if_true, List.length_cons] at hf ⊢
      simp at hf ⊢
      omega
    refine mid_step hS hok hΦ hmono hob hmid ho ?_ (fun a' W' hm => ih _ a' W' hm (by simp [hs]) hcount) (fun k o h => by simpa using h)
    intro e he hb
    rw [ho'] at hrd
    simp only [Option.map_some, Option.getD_some, Array.all_eq_true'] at hrd
    have := hrd e he
    simp only [hb, Bool.not_true, Bool.false_or] at this
    rcases hlj : listed[e.on]? with _ | b
    · simp [Array.getD_eq_getD_getElem?, hlj] at this
    · simp [Array.getD_eq_getD_getElem?, hlj] at this; rw [this]

/-- The same in the order of the text. -/
theorem text_any {S : World → World → Prop} (hS : SR S) {ops : List Oper} {Φ : List VP} {dep : List (List Nat)} {lb : Fr} (hok : drawOk N.n ops dep lb = true) (hΦ : Φ.length = ops.length) (hmono : Monos S Φ) (hob : Obs P N S ops Φ Q lb w ops Φ dep)
    (hfin : ∀ a W listed, Mid N S ops Φ lb w listed a W → (∀ i, i < ops.length → listed[i]? = some true) → up N Q .normal a W) :
    ∀ (m k : Nat) (listed : Array Bool) (a : Act) (W : World), k + m = ops.length → Mid N S ops Φ lb w listed a W → listed.size = ops.length → (∀ j, j < k → listed[j]? = some true) →
      wpOpsIn (FW N.ro) 0 P ops.toArray (up N Q) (List.range' k m) a W := by
  intro m
  induction m with
  | zero =>
    intro k listed a W hk hmid hs hl
    exact hfin a W listed hmid (fun i hi => hl i (by omega))
  | succ m ih =>
    intro k listed a W hk hmid hs hl
    rw [List.range'_succ, wpOpsIn_cons]
    have ho : ops[k]? = some (ops[k]'(by omega)) := List.getElem?_eq_getElem (by omega)
    refine mid_step hS hok hΦ hmono hob hmid ho (fun e he hb => hl _ (edges_of hok ho e he hb)) (fun a' W' hm => ih (k + 1) _ a' W' (by omega) hm (by simp [hs]) ?_) (fun k o h => by simpa using h)
    intro j hj
    by_cases e : k = j
    · subst e
      rw [Array.getElem?_setIfInBounds_self_of_lt (by omega)]
    · rw [Array.getElem?_setIfInBounds_ne e]
      exact hl j (by omega)

/-- Behind the first m operations the others stand in one line. -/
def chainOk (m : Nat) (ops : List Oper) : Bool :=
  (ops.zipIdx).all fun (o, i) => Nat.blt i m || (List.range i).all fun j => (Nat.ble m j && Nat.blt (j + 1) i) || o.after.toList.any fun e => Region.binds .any e && Nat.beq e.on j

theorem chain_of {m : Nat} {ops : List Oper} (h : chainOk m ops = true) {i j : Nat} {o : Oper} (ho : ops[i]? = some o) (hm : m ≤ i) (hj : j < i) (hjm : j < m ∨ j + 1 = i) : ∃ e ∈ o.after, Region.binds .any e = true ∧ e.on = j := by
  simp only [chainOk, List.all_eq_true] at h
  have := h (o, i) (by rw [List.mem_zipIdx_iff_getElem?]; simpa using ho)
  simp only [Bool.or_eq_true, Nat.blt_eq, List.all_eq_true, List.mem_range, List.any_eq_true, Bool.and_eq_true] at this
  rcases this with h1 | h1
  · omega
  · rcases h1 j hj with h2 | h2
    · have := Nat.le_of_ble_eq_true h2.1
      omega
    · obtain ⟨e, he, hb, hon⟩ := h2
      exact ⟨e, Array.mem_toList_iff.1 he, hb, Nat.eq_of_beq_eq_true hon⟩

theorem ready_tail {ops : List Oper} {m : Nat} (hch : chainOk m ops = true) (hback : ∀ (i : Nat) (o : Oper), ops[i]? = some o → ∀ e ∈ o.after, Region.binds .any e = true → e.on < i) {listed : Array Bool} (hs : listed.size = ops.length) {k : Nat} (hk : m ≤ k)
    (hl : ∀ j, j < ops.length → listed[j]? = some (decide (j < k))) : Region.ready .any ops.toArray listed = if k < ops.length then [k] else [] := by
  have hmem : ∀ i, i ∈ Region.ready .any ops.toArray listed ↔ i < ops.length ∧ i = k := by
    intro i
    simp only [Region.ready, List.mem_filter, List.mem_range, List.size_toArray]
    constructor
    · rintro ⟨hi, h⟩
      refine ⟨hi, ?_⟩
      rw [Bool.and_eq_true] at h
      obtain ⟨h1, h2⟩ := h
      have ho0 : ops[i]? = some (ops[i]'hi) := List.getElem?_eq_getElem hi
      have ho : ops.toArray[i]? = some (ops[i]'hi) := by simp
      have hik : ¬ i < k := by
        intro hik
        simp [Array.getD_eq_getD_getElem?, hl i hi, hik] at h1
      rcases Nat.lt_or_ge k i with h3 | h3
      · exfalso
        obtain ⟨e, he, hb, hon⟩ := chain_of hch ho0 (by omega) (show i - 1 < i by omega) (.inr (by omega))
        simp only [ho, Option.map_some, Option.getD_some, Array.all_eq_true'] at h2
        have := h2 e he
        have hkl : i - 1 < ops.length := by omega
        have hnk : ¬ i - 1 < k := by omega
        simp [hb, hon, Array.getD_eq_getD_getElem?, hl (i - 1) hkl] at this
        omega
      · omega
    · rintro ⟨hi, rfl⟩
      refine ⟨hi, ?_⟩
      have ho0 : ops[i]? = some (ops[i]'hi) := List.getElem?_eq_getElem hi
      have ho : ops.toArray[i]? = some (ops[i]'hi) := by simp
      rw [Bool.and_eq_true]
      refine ⟨by simp [Array.getD_eq_getD_getElem?, hl i hi], ?_⟩
      simp only [ho, Option.map_some, Option.getD_some, Array.all_eq_true']
      intro e he
      by_cases hb : Region.binds .any e = true
      · have hlt := hback i _ ho0 e he hb
        simp [hb, Array.getD_eq_getD_getElem?, hl e.on (by omega), hlt]
      · simp [hb]
  have hnd : (Region.ready .any ops.toArray listed).Nodup := by
    unfold Region.ready
    exact List.Pairwise.filter _ List.nodup_range
  generalize Region.ready .any ops.toArray listed = r at hmem hnd
  match r, hmem, hnd with
  | [], hmem, _ =>
    by_cases h : k < ops.length
    · have := (hmem k).2 ⟨h, rfl⟩; cases this
    · rw [if_neg h]
  | [x], hmem, _ =>
    have := (hmem x).1 (by simp)
    obtain ⟨h1, rfl⟩ := this
    rw [if_pos h1]
  | x :: y :: r, hmem, hnd =>
    have h1 := (hmem x).1 (by simp)
    have h2 := (hmem y).1 (by simp)
    have hxy : x = y := by omega
    subst hxy
    simp at hnd

theorem tail_any {ops : List Oper} {m : Nat} (hch : chainOk m ops = true) (hback : ∀ (i : Nat) (o : Oper), ops[i]? = some o → ∀ e ∈ o.after, Region.binds .any e = true → e.on < i) :
    ∀ (fuel k : Nat) (listed : Array Bool) (a : Act) (W : World), m ≤ k → k + fuel ≥ ops.length → k ≤ ops.length → listed.size = ops.length → (∀ j, j < ops.length → listed[j]? = some (decide (j < k))) →
      wpListIn (FW N.ro) 0 P ops.toArray (up N Q) (ops.drop k) a W → wpAnyIn (FW N.ro) 0 P .any ops.toArray (up N Q) fuel listed a W := by
  intro fuel
  induction fuel with
  | zero =>
    intro k listed a W hmk hkf hkl hs hl h
    have hk : k = ops.length := by omega
    subst hk
    rw [List.drop_length] at h
    refine ⟨?_, h⟩
    rw [ready_tail hch hback hs hmk hl, if_neg (by omega)]
  | succ fuel ih =>
    intro k listed a W hmk hkf hkl hs hl h
    by_cases hk : k < ops.length
    · refine ⟨fun hr => ?_, ?_⟩
      · rw [ready_tail hch hback hs hmk hl, if_pos hk] at hr; cases hr
      · intro i hi
        rw [ready_tail hch hback hs hmk hl, if_pos hk] at hi
        simp only [List.mem_singleton] at hi
        subst hi
        rw [List.drop_eq_getElem_cons hk] at h
        have ho : ops.toArray[i]? = some (ops[i]'hk) := by simp [List.getElem?_eq_getElem hk]
        have hl' : ∀ j, j < ops.length → (listed.setIfInBounds i true)[j]? = some (decide (j < i + 1)) := by
          intro j hj
          by_cases e : i = j
          · subst e
            rw [Array.getElem?_setIfInBounds_self_of_lt (by omega)]; simp
          · rw [Array.getElem?_setIfInBounds_ne e, hl j hj]
            congr 1
            by_cases h1 : j < i
            · simp [h1]; omega
            · simp [h1]; omega
        have hnext : ∀ a' W', wpListIn (FW N.ro) 0 P ops.toArray (up N Q) (ops.drop (i + 1)) a' W' → wpAnyIn (FW N.ro) 0 P .any ops.toArray (up N Q) fuel (listed.setIfInBounds i true) a' W' :=
          fun a' W' h' => ih (i + 1) _ a' W' (by omega) (by omega) (by omega) (by simp [hs]) hl' h'
        unfold wpOpIn
        rw [ho]
        simp only []
        unfold wpListIn at h
        split
        · rename_i hw
          rw [if_pos hw] at h
          exact Oper.wpIn_mono hnext h
        · rename_i hw
          rw [if_neg hw] at h
          exact ⟨h.1, hnext _ _ h.2⟩
    · have hk' : k = ops.length := by omega
      subst hk'
      rw [List.drop_length] at h
      refine ⟨fun _ => h, ?_⟩
      intro i hi
      rw [ready_tail hch hback hs hmk hl, if_neg hk] at hi
      cases hi

theorem draw_tail {S : World → World → Prop} (hS : SR S) {ops : List Oper} {m : Nat} (hm : m ≤ ops.length) {Φ : List VP} {dep : List (List Nat)} {lb : Fr} (hok : drawOk N.n (ops.take m) dep lb = true) (hch : chainOk m ops = true) (hback : ∀ (i : Nat) (o : Oper), ops[i]? = some o → ∀ e ∈ o.after, Region.binds .any e = true → e.on < i)
    (hΦ : Φ.length = m) (hmono : Monos S Φ) (hob : Obs P N S (ops.take m) Φ Q lb w (ops.take m) Φ dep)
    (hfin : ∀ a W listed, Mid N S (ops.take m) Φ lb w listed a W → (∀ i, i < m → listed[i]? = some true) → wpListIn (FW N.ro) 0 P ops.toArray (up N Q) (ops.drop m) a W) :
    ∀ (fuel : Nat) (listed : Array Bool) (a : Act) (W : World), Mid N S (ops.take m) Φ lb w listed a W → listed.size = ops.length → (∀ j, m ≤ j → j < ops.length → listed[j]? = some false) → (listed.toList.filter (! ·)).length ≤ fuel →
      wpAnyIn (FW N.ro) 0 P .any ops.toArray (up N Q) fuel listed a W := by
  have hlen : (ops.take m).length = m := by simp; omega
  have htk : ∀ (k : Nat) (o : Oper), (ops.take m)[k]? = some o → ops.toArray[k]? = some o := by
    intro k o h
    rw [List.getElem?_take] at h
    split at h
    · simpa using h
    · cases h
  intro fuel
  induction fuel with
  | zero =>
    intro listed a W hmid hs hB hf
    have hnil : ∀ i, i < ops.length → listed[i]? = some true := by
      intro i hi
      have hfl : listed.toList.filter (! ·) = [] := List.eq_nil_of_length_eq_zero (by omega)
      rw [List.filter_eq_nil_iff] at hfl
      have hlt : i < listed.size := by omega
      have hm := hfl listed[i] (by simp)
      rw [Array.getElem?_eq_getElem hlt]
      simpa using hm
    have hmn : m = ops.length := by
      rcases Nat.lt_or_ge m ops.length with h | h
      · have h1 := hnil m h
        rw [hB m (Nat.le_refl _) h] at h1; cases h1
      · omega
    refine tail_any hch hback 0 ops.length listed a W (by omega) (by omega) (by omega) hs (fun j hj => by rw [hnil j hj]; simp [hj]) ?_
    have := hfin a W listed hmid (fun i hi => hnil i (by omega))
    rwa [hmn] at this
  | succ fuel ih =>
    intro listed a W hmid hs hB hf
    by_cases hall : ∀ i, i < m → listed[i]? = some true
    · -- the line begins
      have hl : ∀ j, j < ops.length → listed[j]? = some (decide (j < m)) := by
        intro j hj
        by_cases h : j < m
        · rw [hall j h]; simp [h]
        · rw [hB j (by omega) hj]; simp [h]
      have hcnt : ops.length - m ≤ (listed.toList.filter (! ·)).length := by
        have e : listed.toList = listed.toList.take m ++ listed.toList.drop m := (List.take_append_drop m _).symm
        rw [e, List.filter_append, List.length_append]
        have e2 : (listed.toList.drop m).filter (! ·) = listed.toList.drop m := by
          rw [List.filter_eq_self]
          intro x hx
          obtain ⟨j, hj, rfl⟩ := List.getElem_of_mem hx
          simp only [List.length_drop, Array.length_toList] at hj
          have := hB (m + j) (by omega) (by omega)
          rw [Array.getElem?_eq_getElem (by omega)] at this
          simp only [Option.some.injEq] at this
          simp [this]
        rw [e2]; simp; omega
      exact tail_any hch hback (fuel + 1) m listed a W (Nat.le_refl _) (by omega) hm hs hl (hfin a W listed hmid hall)
    · refine ⟨fun hr => ?_, ?_⟩
      · -- something of the first part is ready
        exfalso
        apply hall
        intro i
        induction i using Nat.strongRecOn with
        | _ i ihi =>
          intro him
          rcases hli : listed[i]? with _ | b
          · simp at hli; omega
          · cases b with
            | true => rfl
            | false =>
              exfalso
              have hi : i < ops.length := by omega
              have : i ∈ Region.ready .any ops.toArray listed := by
                simp only [Region.ready, List.mem_filter, List.mem_range, List.size_toArray]
                refine ⟨hi, ?_⟩
                simp only [Array.getD_eq_getD_getElem?, hli, Option.getD_some, Bool.not_false, Bool.true_and]
                have ho0 : ops[i]? = some (ops[i]'hi) := List.getElem?_eq_getElem hi
                have ho : ops.toArray[i]? = some (ops[i]'hi) := by simp
                simp only [ho, Option.map_some, Option.getD_some, Array.all_eq_true']
                intro e he
                by_cases hb : Region.binds .any e = true
                · have hlt := hback i _ ho0 e he hb
                  simp only [hb, Bool.not_true, Bool.false_or]
                  rw [ihi e.on hlt (by omega)]; rfl
                · simp [hb]
              rw [hr] at this
              cases this
      · intro i hi
        simp only [Region.ready, List.mem_filter, List.mem_range, List.size_toArray] at hi
        obtain ⟨hlt, hi⟩ := hi
        rw [Bool.and_eq_true] at hi
        obtain ⟨hun, hrd⟩ := hi
        have ho : ops[i]? = some (ops[i]'hlt) := List.getElem?_eq_getElem hlt
        have ho' : ops.toArray[i]? = some (ops[i]'hlt) := by simp
        have hrd' : ∀ e ∈ (ops[i]'hlt).after, Region.binds .any e = true → listed[e.on]? = some true := by
          intro e he hb
          rw [ho'] at hrd
          simp only [Option.map_some, Option.getD_some, Array.all_eq_true'] at hrd
          have := hrd e he
          simp only [hb, Bool.not_true, Bool.false_or] at this
          rcases hlj : listed[e.on]? with _ | b
          · simp [Array.getD_eq_getD_getElem?, hlj] at this
          · simp [Array.getD_eq_getD_getElem?, hlj] at this; rw [this]
        have him : i < m := by
          rcases Nat.lt_or_ge i m with h | h
          · exact h
          · exfalso
            apply hall
            intro j hj
            obtain ⟨e, he, hb, hon⟩ := chain_of hch ho h (show j < i by omega) (.inl hj)
            rw [← hon]; exact hrd' e he hb
        have hun' : listed[i]? = some false := by
          have hlt' : i < listed.size := by omega
          rw [Array.getElem?_eq_getElem hlt']
          simp only [Array.getD_eq_getD_getElem?, Array.getElem?_eq_getElem hlt', Option.getD_some] at hun
          simpa using hun
        have hcount : ((listed.setIfInBounds i true).toList.filter (! ·)).length ≤ fuel := by
          have hlt' : i < listed.toList.length := by simp; omega
          have e1 : (listed.setIfInBounds i true).toList = listed.toList.set i true := by simp
          rw [e1]
          have e2 : listed.toList = listed.toList.take i ++ false :: listed.toList.drop (i + 1) := by
            have hg : listed.toList[i] = false := by
              have := hun'
              rw [Array.getElem?_eq_getElem (by simpa using hlt')] at this
              simpa using this
            rw [← hg, ← List.drop_eq_getElem_cons hlt']; simp
          have e3 : listed.toList.set i true = listed.toList.take i ++ true :: listed.toList.drop (i + 1) := by
            rw [List.set_eq_take_append_cons_drop, if_pos hlt']
          rw [e3]
          rw [e2] at hf
          simp only [List.filter_append, List.length_append, List.filter_cons, Bool.not_false, Bool.not_true, if_true, List.length_cons] at hf ⊢
          simp at hf ⊢
          omega
        have hot : (ops.take m)[i]? = some (ops[i]'hlt) := by rw [List.getElem?_take, if_pos him]; exact ho
        refine mid_step hS hok (by rw [hlen]; exact hΦ) hmono hob hmid hot hrd' (fun a' W' hm' => ih _ a' W' hm' (by simp [hs]) ?_ hcount) htk
        intro j hj hjl
        rw [Array.getElem?_setIfInBounds_ne (by omega)]
        exact hB j hj hjl

theorem below_of_drawn {B k : Nat} {W : World} (h : Below B { w with drawn := k } W) : Below B w W := ⟨h.os, h.tape, h.output, h.size, h.block⟩
theorem sr_below : SR (fun w W => Below w.heap.size w W) := ⟨fun w => Below.refl _ w, fun a b c h k => h.trans (k.mono h.size), fun w k W h => below_of_drawn h⟩

theorem Obs.drawn {S : World → World → Prop} (hS : SR S) {ops : List Oper} {Φ : List VP} {lb : Fr} {k : Nat} {os : List Oper} : ∀ {φs : List VP} {jss : List (List Nat)}, Obs P N S ops Φ Q lb w os φs jss → Obs P N S ops Φ Q lb { w with drawn := k } os φs jss := by
  induction os with
  | nil => intro φs jss _; trivial
  | cons o os ih =>
    intro φs jss h
    cases φs with
    | nil => trivial
    | cons φ φs =>
      cases jss with
      | nil => trivial
      | cons js jss => exact ⟨fun W hW => h.1 W (hS.drawn _ _ _ hW), ih h.2⟩

theorem live_told {S : World → World → Prop} {ops : List Oper} {Φ : List VP} {lb : Fr} {listed : Array Bool} {a' : Act} {W : World} {m : Nat} {live : List Nat} (hmid : Mid N S ops Φ lb w listed a' W) (hml : m ≤ ops.length) (hΦ : m ≤ Φ.length) (hlive : (live.all fun i => Nat.blt i m) = true) (hall : ∀ i, i < m → listed[i]? = some true) :
    ∀ p ∈ depAt ops Φ live, toldP p a' W := by
  intro p hp
  simp only [depAt, List.mem_map] at hp
  obtain ⟨j, hjm, rfl⟩ := hp
  have hjlt : j < m := by
    rw [List.all_eq_true] at hlive
    simpa using hlive j hjm
  have hoj : ops[j]? = some (ops[j]'(by omega)) := List.getElem?_eq_getElem (by omega)
  have hφj : Φ[j]? = some (Φ[j]'(by omega)) := List.getElem?_eq_getElem (by omega)
  exact told_dep hoj hφj (hmid.done j _ _ hoj hφj (hall j hjlt))

/-- A region that draws its order. 'live': the operations whose values are asked about behind it. -/
theorem wc_drawS {S : World → World → Prop} (hS : SR S) {id : Nat} {ops : List Oper} (hm : P.follows .mixedOrders = true) (lb : Fr) (hlb : Sub lb l) (Φ : List VP) (dep : List (List Nat)) (live : List Nat)
    (hok : drawOk N.n ops dep lb = true) (hΦ : Nat.beq Φ.length ops.length = true) (hlive : (live.all fun i => Nat.blt i ops.length) = true) (hmono : Monos S Φ) (hob : Obs P N S ops Φ Q lb w ops Φ dep)
    (hfin : ∀ W, S w W → Gather (depAt ops Φ live) lb W fun l' => Q .normal l' W) : WC P N (.region id ops.toArray true) Q l w := by
  intro a ha hg
  refine wpIn_region_any hm ?_
  have hΦ' := Nat.eq_of_beq_eq_true hΦ
  refine draw_any hS (w := { w with drawn := w.drawn + 1 }) hok hΦ' hmono (hob.drawn hS) ?_ _ _ _ _ ?_ (by simp) ?_
  · intro a' W listed hmid hall
    exact gather_up hmid.good (Gather.use (hfin W (hS.drawn _ _ _ hmid.below)) hmid.base (live_told hmid (Nat.le_refl _) (by omega) hlive hall))
  · refine ⟨hS.refl _, ha.sub hlb, hg.step rfl (fun _ _ h _ _ => h) (Nat.le_refl _), ?_⟩
    intro i o φ _ _ hi
    simp [Array.getElem?_replicate] at hi
  · simp
theorem wc_draw {id : Nat} {ops : List Oper} (hm : P.follows .mixedOrders = true) (lb : Fr) (hlb : Sub lb l) (Φ : List VP) (dep : List (List Nat)) (live : List Nat)
    (hok : drawOk N.n ops dep lb = true) (hΦ : Nat.beq Φ.length ops.length = true) (hlive : (live.all fun i => Nat.blt i ops.length) = true) (hmono : Monos (fun w W => Below w.heap.size w W) Φ) (hob : Obs P N (fun w W => Below w.heap.size w W) ops Φ Q lb w ops Φ dep)
    (hfin : ∀ W, Below w.heap.size w W → Gather (depAt ops Φ live) lb W fun l' => Q .normal l' W) : WC P N (.region id ops.toArray true) Q l w :=
  wc_drawS sr_below hm lb hlb Φ dep live hok hΦ hlive hmono hob hfin

/-- A region in the order of the text, told in the same way: where operations are guarded. -/
theorem wc_textS {S : World → World → Prop} (hS : SR S) {id : Nat} {ops : List Oper} (lb : Fr) (hlb : Sub lb l) (Φ : List VP) (dep : List (List Nat)) (live : List Nat)
    (hok : drawOk N.n ops dep lb = true) (hΦ : Nat.beq Φ.length ops.length = true) (hlive : (live.all fun i => Nat.blt i ops.length) = true) (hmono : Monos S Φ) (hob : Obs P N S ops Φ Q lb w ops Φ dep)
    (hfin : ∀ W, S w W → Gather (depAt ops Φ live) lb W fun l' => Q .normal l' W) : WC P N (.region id ops.toArray false) Q l w := by
  intro a ha hg
  refine wpIn_region ?_
  have hΦ' := Nat.eq_of_beq_eq_true hΦ
  rw [List.range_eq_range', List.size_toArray]
  refine text_any hS hok hΦ' hmono hob ?_ ops.length 0 (Array.replicate ops.length false) a w (by simp) ⟨hS.refl _, ha.sub hlb, hg, ?_⟩ (by simp) (fun j hj => absurd hj (by omega))
  · intro a' W listed hmid hall
    exact gather_up hmid.good (Gather.use (hfin W hmid.below) hmid.base (live_told hmid (Nat.le_refl _) (by omega) hlive hall))
  · intro i o φ _ _ hi
    simp [Array.getElem?_replicate] at hi
theorem wc_text {id : Nat} {ops : List Oper} (lb : Fr) (hlb : Sub lb l) (Φ : List VP) (dep : List (List Nat)) (live : List Nat)
    (hok : drawOk N.n ops dep lb = true) (hΦ : Nat.beq Φ.length ops.length = true) (hlive : (live.all fun i => Nat.blt i ops.length) = true) (hmono : Monos (fun w W => Below w.heap.size w W) Φ) (hob : Obs P N (fun w W => Below w.heap.size w W) ops Φ Q lb w ops Φ dep)
    (hfin : ∀ W, Below w.heap.size w W → Gather (depAt ops Φ live) lb W fun l' => Q .normal l' W) : WC P N (.region id ops.toArray false) Q l w :=
  wc_textS sr_below lb hlb Φ dep live hok hΦ hlive hmono hob hfin

def backOk (ops : List Oper) : Bool := (ops.zipIdx).all fun (o, i) => o.after.toList.all fun e => !Region.binds .any e || Nat.blt e.on i
theorem back_of {ops : List Oper} (h : backOk ops = true) (i : Nat) (o : Oper) (ho : ops[i]? = some o) : ∀ e ∈ o.after, Region.binds .any e = true → e.on < i := by
  simp only [backOk, List.all_eq_true] at h
  intro e he hb
  have := h (o, i) (by rw [List.mem_zipIdx_iff_getElem?]; simpa using ho) e (Array.mem_toList_iff.2 he)
  simpa [hb] using this

/-- A region that draws its order, the operations from m on in one line behind all others. -/
theorem wc_draw_tailS {S : World → World → Prop} (hS : SR S) {id : Nat} {ops : List Oper} (m : Nat) (hm : P.follows .mixedOrders = true) (lb : Fr) (hlb : Sub lb l) (Φ : List VP) (dep : List (List Nat)) (live : List Nat)
    (hml : Nat.ble m ops.length = true) (hok : drawOk N.n (ops.take m) dep lb = true) (hch : chainOk m ops = true) (hback : backOk ops = true) (hΦ : Nat.beq Φ.length m = true) (hlive : (live.all fun i => Nat.blt i m) = true) (hmono : Monos S Φ) (hob : Obs P N S (ops.take m) Φ Q lb w (ops.take m) Φ dep)
    (hfin : ∀ W, S w W → Gather (depAt (ops.take m) Φ live) lb W fun l' => WL P N ops.toArray Q (ops.drop m) l' W) : WC P N (.region id ops.toArray true) Q l w := by
  intro a ha hg
  refine wpIn_region_any hm ?_
  have hΦ' := Nat.eq_of_beq_eq_true hΦ
  have hml' := Nat.le_of_ble_eq_true hml
  refine draw_tail hS (w := { w with drawn := w.drawn + 1 }) hml' hok hch (back_of hback) hΦ' hmono (hob.drawn hS) ?_ _ _ _ _ ?_ (by simp) ?_ ?_
  · intro a' W listed hmid hall
    obtain ⟨l', hl', h⟩ := Gather.use (hfin W (hS.drawn _ _ _ hmid.below)) hmid.base (live_told hmid (m := m) (by simp; omega) (by omega) hlive hall)
    exact h a' hl' hmid.good
  · refine ⟨hS.refl _, ha.sub hlb, hg.step rfl (fun _ _ h _ _ => h) (Nat.le_refl _), ?_⟩
    intro i o φ _ _ hi
    simp [Array.getElem?_replicate] at hi
  · intro j hj hjl
    simp [Array.getElem?_replicate, hjl]
  · simp
theorem wc_draw_tail {id : Nat} {ops : List Oper} (m : Nat) (hm : P.follows .mixedOrders = true) (lb : Fr) (hlb : Sub lb l) (Φ : List VP) (dep : List (List Nat)) (live : List Nat)
    (hml : Nat.ble m ops.length = true) (hok : drawOk N.n (ops.take m) dep lb = true) (hch : chainOk m ops = true) (hback : backOk ops = true) (hΦ : Nat.beq Φ.length m = true) (hlive : (live.all fun i => Nat.blt i m) = true) (hmono : Monos (fun w W => Below w.heap.size w W) Φ) (hob : Obs P N (fun w W => Below w.heap.size w W) (ops.take m) Φ Q lb w (ops.take m) Φ dep)
    (hfin : ∀ W, Below w.heap.size w W → Gather (depAt (ops.take m) Φ live) lb W fun l' => WL P N ops.toArray Q (ops.drop m) l' W) : WC P N (.region id ops.toArray true) Q l w :=
  wc_draw_tailS sr_below m hm lb hlb Φ dep live hml hok hch hback hΦ hlive hmono hob hfin

theorem opg_none {S : World → World → Prop} {ops : List Oper} {o : Oper} {φ : VP} (hg : o.guard = none) (h : OpW P N o (fun l' W' => toldL o φ l' W' ∧ S w W') Q l w) : OpG P N S ops o φ Q l w := by
  unfold OpG; rw [hg]; exact h
theorem and_l {a b : Bool} (h : (a && b) = true) : a = true := (Bool.and_eq_true_iff.1 h).1
theorem and_r {a b : Bool} (h : (a && b) = true) : b = true := (Bool.and_eq_true_iff.1 h).2
theorem and_i {a b : Bool} (h : a = true) (k : b = true) : (a && b) = true := by rw [h, k]; rfl
theorem not_i {a : Bool} (h : a = false) : (!a) = true := by rw [h]; rfl
theorem undef_ne {b : Bool} : (undef : Value) ≠ .bool b := by intro h; cases h

/-- Guarded by 'c', which is known. -/
theorem opg_t1 {S : World → World → Prop} {ops : List Oper} {o : Oper} {φ : VP} {j : Nat} {c : Bool} (hg : o.guard = some (j, true)) (hc : ((ops[j]?).bind fun o' => o'.dst.bind l.look) = some (.bool c))
    (h : c = true → OpW P N o (fun l' W' => toldL o φ l' W' ∧ S w W') Q l w) (hn : c = false → φ undef w) : OpG P N S ops o φ Q l w := by
  unfold OpG; rw [hg]
  refine ⟨_, hc, fun e => h (by injection e), fun e => hn ?_⟩
  cases c with
  | true => exact absurd rfl e
  | false => rfl
theorem opg_f1 {S : World → World → Prop} {ops : List Oper} {o : Oper} {φ : VP} {j : Nat} {c : Bool} (hg : o.guard = some (j, false)) (hc : ((ops[j]?).bind fun o' => o'.dst.bind l.look) = some (.bool c))
    (h : (!c) = true → OpW P N o (fun l' W' => toldL o φ l' W' ∧ S w W') Q l w) (hn : (!c) = false → φ undef w) : OpG P N S ops o φ Q l w := by
  unfold OpG; rw [hg]
  refine ⟨_, hc, fun e => h (by injection e with e; rw [e]; rfl), fun e => hn ?_⟩
  cases c with
  | true => rfl
  | false => exact absurd rfl e
/-- Guarded by 'c', which is told where 'a' holds. -/
theorem opg_t {S : World → World → Prop} {ops : List Oper} {o : Oper} {φ : VP} {j : Nat} {a c : Bool} {vj : Value} (hg : o.guard = some (j, true)) (hc : ((ops[j]?).bind fun o' => o'.dst.bind l.look) = some vj) (hv : vj = bif a then .bool c else undef)
    (h : (a && c) = true → OpW P N o (fun l' W' => toldL o φ l' W' ∧ S w W') Q l w) (hn : (a && c) = false → φ undef w) : OpG P N S ops o φ Q l w := by
  unfold OpG; rw [hg]
  subst hv
  refine ⟨_, hc, fun e => h ?_, fun e => hn ?_⟩
  · cases a with
    | true =>
      have e' : c = true := by injection e
      rw [e']; rfl
    | false => exact absurd e undef_ne
  · cases a with
    | true => cases c with
      | true => exact absurd rfl e
      | false => rfl
    | false => rfl
theorem opg_f {S : World → World → Prop} {ops : List Oper} {o : Oper} {φ : VP} {j : Nat} {a c : Bool} {vj : Value} (hg : o.guard = some (j, false)) (hc : ((ops[j]?).bind fun o' => o'.dst.bind l.look) = some vj) (hv : vj = bif a then .bool c else undef)
    (h : (a && !c) = true → OpW P N o (fun l' W' => toldL o φ l' W' ∧ S w W') Q l w) (hn : (a && !c) = false → φ undef w) : OpG P N S ops o φ Q l w := by
  unfold OpG; rw [hg]
  subst hv
  refine ⟨_, hc, fun e => h ?_, fun e => hn ?_⟩
  · cases a with
    | true =>
      have e' : c = false := by injection e
      rw [e']; rfl
    | false => exact absurd e undef_ne
  · cases a with
    | true => cases c with
      | true => rfl
      | false => exact absurd rfl e
    | false => rfl
end
end Go.Eng
