/- Lemmas for a law of the seat: what functions of the program do, each stated as a contract of its own (X2). -/
import Derived.Test.YtclmagkfpijbbaaGreatX1
import Derived.Sort.Grow
import Derived.Sort.Row
import Derived.Scope
import Derived.SizedLaws
import Derived.Deep.Slices
import Derived.Deep.Fields
import Derived.Carry
import Derived.OpenShut
import Derived.Maps.RangeRun
import Derived.Shelf.Strings.Builder1
import Derived.Lib.AppendStr
import Derived.Lib.UnsafeStr
import Derived.Laws.Pointers
set_option linter.unusedVariables false
set_option linter.unusedSimpArgs false
namespace Go.Ab
open Go.RowKit Go.Shelf Go.Proofs Go.Eng

def mget {α β:Type} [DecidableEq α] : List (α×β)→α→Option β
 | [],_=>none
 | p::r,k=>if k=p.1 then some p.2 else mget r k
def mset {α β:Type} [DecidableEq α] : List (α×β)→α→β→List (α×β)
 | [],k,v=>[(k,v)]
 | p::r,k,v=>if k=p.1 then (k,v)::r else p::mset r k v
def mdel {α β:Type} [DecidableEq α] : List (α×β)→α→List (α×β)
 | [],_=>[]
 | p::r,k=>if k=p.1 then r else p::mdel r k

theorem mset_keys {α β:Type} [DecidableEq α] : ∀ (x:List (α×β)) (k:α) (v:β),(mset x k v).map (·.1)=if k∈x.map (·.1) then x.map (·.1) else x.map (·.1)++[k]:=by
 intro x k v
 induction x with
 | nil=>simp [mset]
 | cons p r ih =>
  simp only [mset]
  by_cases h : k=p.1
  ·rw [if_pos h]; simp [h]
  ·rw [if_neg h,List.map_cons,ih]
   simp only [List.map_cons,List.mem_cons,h,false_or]
   split <;> simp
theorem zBZ {α β:Type} [DecidableEq α] {x:List (α×β)}(k:α) (v:β) (h:(x.map (·.1)).Nodup) : ((mset x k v).map (·.1)).Nodup:=by
 rw [mset_keys]
 split
 ·exact h
 ·rename_i hn
  rw [List.nodup_append]
  exact ⟨h,by simp,fun a ha b hb e=>by simp at hb; subst hb e; exact hn ha⟩
theorem mdel_sub {α β:Type} [DecidableEq α] : ∀ (x:List (α×β)) (k:α),(mdel x k).Sublist x:=by
 intro x k
 induction x with
 | nil=>simp [mdel]
 | cons p r ih =>
  simp only [mdel]
  split
  ·exact List.sublist_cons_self _ _
  ·exact ih.cons_cons p

def EntL (m:Mem) (tk tv:Ty) : List (tk.den×tv.den)→List MapEntry→Prop
 | [],[]=>True
 | p::x,e::es=>(RV m tk p.1 e.key∧RV m tv p.2 e.val)∧EntL m tk tv x es
 | _,_=>False
theorem ent_of {m:Mem}{tk tv:Ty} : ∀ {x:List (tk.den×tv.den)}{es:List MapEntry},es.length=x.length→(∀ (i:Nat) (p:tk.den×tv.den) (e:MapEntry),x[i]?=some p→es[i]?=some e→RV m tk p.1 e.key∧RV m tv p.2 e.val)→EntL m tk tv x es:=by
 intro x
 induction x with
 | nil=>intro es h _; cases es with
  | nil=>trivial
  | cons=>simp at h
 | cons p x ih=>intro es h k; cases es with
  | nil=>simp at h
  | cons e es=>exact ⟨k 0 p e rfl rfl,ih (by simpa using h) fun i p e hp he=>k (i+1) p e (by simpa using hp) (by simpa using he)⟩
theorem ent_get {m:Mem}{tk tv:Ty} : ∀ {x:List (tk.den×tv.den)}{es:List MapEntry},EntL m tk tv x es→es.length=x.length∧∀ (i:Nat) (p:tk.den×tv.den) (e:MapEntry),x[i]?=some p→es[i]?=some e→RV m tk p.1 e.key∧RV m tv p.2 e.val:=by
 intro x
 induction x with
 | nil=>intro es h; cases es with
  | nil=>exact ⟨rfl,fun i p e hp=>by simp at hp⟩
  | cons=>exact h.elim
 | cons p x ih=>intro es h; cases es with
  | nil=>exact h.elim
  | cons e es =>
   obtain ⟨h1,h2⟩:=ih h.2
   refine ⟨by simp [h1],fun i q u hq hu=>?_⟩
   cases i with
   | zero=>simp at hq hu; subst hq hu; exact h.1
   | succ i=>exact h2 i q u (by simpa using hq) (by simpa using hu)

theorem zB2 {m:Mem}{ρ:List Value}{t:Ty}{x:t.den}{v:Value}(h:RV m t x v) : RepA m ρ (zBx t x) v:=by
 unfold RV at h
 unfold zBx
 split
 ·rename_i ha
  rw [if_pos ha] at h
  obtain ⟨cs,rfl,h2⟩:=h
  simp only [RepA]
  exact ⟨cs,rfl,rc_expl h2,h2.one⟩
 ·rename_i ha
  rw [if_neg ha] at h
  cases t with
  | int k=>simp only [RC] at h; cases h; simp [expl,RepA]
  | bool=>simp only [RC] at h; cases h; simp [expl,RepA]
  | str=>simp only [RC] at h; cases h; simp [expl,RepA]
  | slice e=>simpa [expl,RepA] using h
  | unit=>simp [Ty.agg] at ha
  | pair a b=>simp [Ty.agg] at ha
  | st a=>simp [Ty.agg] at ha
  | arr n e=>simp [Ty.agg] at ha
  | raw z=>simp only [RC] at h; cases h; simp [expl,RepA]
  | map k v=>simpa [expl,RepA] using h
  | ptr t=>simpa [expl,RepA] using h
theorem zCm {m:Mem}{ρ:List Value}{t:Ty}{x:t.den}{v:Value}(hno:t.fit x=true) (h:RepA m ρ (zBx t x) v) : RV m t x v:=by
 unfold zBx at h
 unfold RV
 split
 ·rename_i ha
  rw [if_pos ha] at h
  simp only [RepA] at h
  obtain ⟨us,rfl,h1,_⟩:=h
  exact ⟨us,rfl,zCY hno h1⟩
 ·rename_i ha
  rw [if_neg ha] at h
  refine zCY (ρ:=ρ) hno ?_
  cases t with
  | int k=>simp only [expl,RepL]; exact ⟨by simpa [expl] using h,trivial⟩
  | bool=>simp only [expl,RepL]; exact ⟨by simpa [expl] using h,trivial⟩
  | str=>simp only [expl,RepL]; exact ⟨by simpa [expl] using h,trivial⟩
  | slice e=>simp only [expl,RepL]; exact ⟨by simpa [expl] using h,trivial⟩
  | unit=>simp [Ty.agg] at ha
  | pair a b=>simp [Ty.agg] at ha
  | st a=>simp [Ty.agg] at ha
  | arr n e=>simp [Ty.agg] at ha
  | raw z=>simp only [expl,RepL]; exact ⟨by simpa [expl] using h,trivial⟩
  | map k v=>simp only [expl,RepL]; exact ⟨by simpa [expl] using h,trivial⟩
  | ptr t=>simp only [expl,RepL]; exact ⟨by simpa [expl] using h,trivial⟩

structure KeyT (P:Program) (kT:TypeId) (tk:Ty) [DecidableEq tk.den] : Prop where
 chk : ∀ (m:Mem) (k:tk.den) (v:Value) (b:Bool) (w:World),RV m tk k v→(Instr.checkKey b 10000 kT v).run P w=.ok () w
 find : ∀ (m:Mem) (k:tk.den) (v:Value) (tv:Ty) (x:List (tk.den×tv.den)) (es:List MapEntry) (w:World),RV m tk k v→EntL m tk tv x es →
  ∃ r,(Instr.findKey kT v es).run P w=.ok r w∧match r with
   | none=>mget x k=none
   | some (i,u)=>∃ y,mget x k=some y∧RV m tv y u∧(x[i]?).map (·.1)=some k∧(∃ e : MapEntry,es[i]?=some e)∧∀ j,j < i→(x[j]?).map (·.1)≠some k
 stays : ∀ (m:Mem) (k:tk.den) (u v:Value) (w:World),RV m tk k u→RV m tk k v→(Instr.keyThatStays u v).run P w=.ok v w

theorem key_now {P:Program}{kT:TypeId}{tk:Ty} [DecidableEq tk.den] {dsc:TypeDesc}(hU:P.underlying kT=some dsc) (hc:∀ (m:Mem) (k:tk.den) (v:Value) (b:Bool) (w:World),RV m tk k v→(Instr.checkKey b 10000 kT v).run P w=.ok () w)
  (hs:∀ (m:Mem) (k a:tk.den) (v u:Value),RV m tk k v→RV m tk a u→Instr.sameNow dsc v u=some (decide (k=a))) (hst:∀ (m:Mem) (k:tk.den) (u v:Value) (w:World),RV m tk k u→RV m tk k v→(Instr.keyThatStays u v).run P w=.ok v w) : KeyT P kT tk:=by
 refine ⟨hc,fun m k v tv x es w hk he=>?_,hst⟩
 have key : ∀ {x:List (tk.den×tv.den)} {es:List MapEntry} (i:Nat),EntL m tk tv x es→∃ r,Instr.findNow dsc v es i=some r∧match r with
   | none=>mget x k=none
   | some (q,u)=>i≤q∧∃ y,mget x k=some y∧RV m tv y u∧(x[q - i]?).map (·.1)=some k∧(∃ e : MapEntry,es[q - i]?=some e)∧∀ j,j < q - i→(x[j]?).map (·.1)≠some k:=by
  intro x
  induction x with
  | nil=>intro es i h; cases es with
   | nil=>exact ⟨none,rfl,rfl⟩
   | cons=>exact h.elim
  | cons p x ih=>intro es i h; cases es with
   | nil=>exact h.elim
   | cons e es =>
    simp only [Instr.findNow,hs m k p.1 v e.key hk h.1.1]
    by_cases hkp : k=p.1
    ·have hd : decide (k=p.1)=true:=by simp [hkp]
     rw [hd]
     exact ⟨_,rfl,Nat.le_refl _,p.2,by simp [mget,hkp],h.1.2,by simp [hkp],⟨e,by simp⟩,fun j hj=>absurd hj (by omega)⟩
    ·have hd : decide (k=p.1)=false:=by simp [hkp]
     rw [hd]
     obtain ⟨r,h1,h2⟩:=ih (i+1) h.2
     refine ⟨r,h1,?_⟩
     cases r with
     | none=>simp only [mget,if_neg hkp]; exact h2
     | some q =>
      obtain ⟨q,u⟩:=q
      obtain ⟨h3,y,h4,h5,h6,⟨e',h7⟩,h8⟩:=h2
      have hq : q - i=(q - (i+1))+1:=by omega
      refine ⟨by omega,y,by simp only [mget,if_neg hkp]; exact h4,h5,by rw [hq]; simpa using h6,⟨e',by rw [hq]; simpa using h7⟩,fun j hj=>?_⟩
      cases j with
      | zero=>simp; exact fun e=>hkp e.symm
      | succ j=>simpa using h8 j (by omega)
 obtain ⟨r,h1,h2⟩:=key 0 he
 refine ⟨r,by simp [Instr.findKey,run_underlying hU,h1],?_⟩
 cases r with
 | none=>exact h2
 | some q =>
  obtain ⟨q,u⟩:=q
  obtain ⟨_,y,h3,h4,h5,h6,h7⟩:=h2
  exact ⟨y,h3,h4,by simpa using h5,by simpa using h6,by simpa using h7⟩
theorem bstr_beq (s t:Str) : (bstr s == bstr t)=decide (s=t):=by
 show (s.toArray == t.toArray)=_
 by_cases h : s=t <;> simp [h]
theorem keyT_int {P:Program}{kT:TypeId}{k:IntKind}(hU:P.underlying kT=some (.int k)) : KeyT P kT (.int k):=by
 refine key_now hU (fun m z v b w h=>?_) (fun m z a v u hv hu=>?_) (fun m z u v w hu hv=>?_)
 ·simp only [RV,Ty.agg,RC] at h; cases h
  rw [show (10000:Nat)=9999+1 from rfl]; unfold Instr.checkKey; simp [run_underlying hU]
 ·simp only [RV,Ty.agg,RC] at hv hu; cases hv; cases hu
  simp only [Instr.sameNow,if_true,Option.some.injEq]
  by_cases e : z=a
  ·subst e; simp
  ·simp [e]
 ·simp only [RV,Ty.agg,RC] at hv hu; cases hv; cases hu
  rw [show (Instr.keyThatStays (.int k z) (.int k z))=(if Instr.sameBits 10000 (.int k z) (.int k z) then pure (.int k z) else _) from rfl]
  rw [show Instr.sameBits 10000 (.int k z) (.int k z)=(k == k&&z == z) from rfl]
  simp
def ZeroW (P:Program) (T:Nat) (t:Ty) : Prop:=∃ z,Eng.Zero P T z∧∀ m,RV m t t.dflt z
theorem zeroW_of {P:Program}{T:Nat}{t:Ty}{z:Value}(h:Eng.Zero P T z) (hz:(if t.agg then Value.agg (zeroV t).toArray else ((zeroV t).head?).getD undef)=z) (h1:t.agg=false→(zeroV t).length=1) : ZeroW P T t:=by
 refine ⟨z,h,fun m=>?_⟩
 unfold RV
 split
 ·rename_i ha; rw [if_pos ha] at hz; exact ⟨_,hz.symm,rc_zero m t⟩
 ·rename_i ha
  rw [if_neg ha] at hz
  have hl:=h1 (by simpa using ha)
  obtain ⟨u,hu⟩:=List.length_eq_one_iff.1 hl
  have:=rc_zero m t
  rw [hu] at this hz
  simp at hz; subst hz; exact this

section
variable {P:Program} {N:Ev} {X:Cx} {Q:zBa} {st:AS}
variable {d:Nat} {T U T':TypeId} {pos:String} {aft:Array Edge} {g:Option (Nat×Bool)} {x y z:Operand} {k ky:IntKind} {a b:Int}

theorem zDV {α β:Type} [DecidableEq α] {x y:List (α×β)}(h:x.Perm y) (hn:(x.map (·.1)).Nodup) (k:α) : mget x k=mget y k:=by
 induction h with
 | nil=>rfl
 | cons p _ ih =>
  simp only [List.map_cons,List.nodup_cons] at hn
  simp only [mget,ih hn.2]
 | swap p q l =>
  simp only [List.map_cons,List.nodup_cons,List.mem_cons,not_or] at hn
  simp only [mget]
  by_cases h1 : k=p.1
  ·by_cases h2 : k=q.1
   ·exact absurd (h2.symm.trans h1) hn.1.1
   ·rw [if_neg h2,if_pos h1,if_pos h1]
  ·by_cases h2 : k=q.1
   ·rw [if_pos h2,if_neg h1,if_pos h2]
   ·rw [if_neg h2,if_neg h1,if_neg h1,if_neg h2]
 | trans h1 h2 ih1 ih2=>rw [ih1 hn,ih2 ((h1.map _).nodup_iff.1 hn)]
theorem mset_perm {α β:Type} [DecidableEq α] {x y:List (α×β)}(h:x.Perm y) (hn:(x.map (·.1)).Nodup) (k:α) (v:β) : (mset x k v).Perm (mset y k v):=by
 induction h with
 | nil=>exact List.Perm.refl _
 | cons p h ih =>
  simp only [List.map_cons,List.nodup_cons] at hn
  simp only [mset]
  split
  ·exact List.Perm.cons _ h
  ·exact List.Perm.cons _ (ih hn.2)
 | swap p q l =>
  simp only [List.map_cons,List.nodup_cons,List.mem_cons,not_or] at hn
  simp only [mset]
  by_cases h1 : k=p.1
  ·by_cases h2 : k=q.1
   ·exact absurd (h2.symm.trans h1) hn.1.1
   ·rw [if_neg h2,if_pos h1,if_pos h1]; exact List.Perm.swap _ _ _
  ·by_cases h2 : k=q.1
   ·rw [if_pos h2,if_neg h1,if_pos h2]; exact List.Perm.swap _ _ _
   ·rw [if_neg h2,if_neg h1,if_neg h1,if_neg h2]; exact List.Perm.swap _ _ _
 | trans h1 h2 ih1 ih2=>exact (ih1 hn).trans (ih2 ((h1.map _).nodup_iff.1 hn))
theorem own_map {fr:Fr}{w:World}{m:Mem}{ρ:List Value}{φ:List Frag}(hc:Conc X st fr w m ρ φ){i:Nat}{tk tv:Ty}{xs:List (tk.den×tv.den)}{v:Value}(hv:RepA m ρ (.map i) v) (hH:st.H.get i=.map tk tv xs) :
  ∃ xs',xs'.Perm xs∧∃ b es cl,v=.map (some b)∧ρ[i]?=some (.map (some b))∧φ[i]?=some [(b,.map es cl)]∧w.heap[b]?=some (.map es cl)∧EntL m tk tv xs' es.toList∧(xs'.map (·.1)).Nodup∧zCP es cl:=by
 simp only [RepA] at hv
 obtain ⟨f,hf,ho,hw⟩:=hc.obj hv.1
 rw [hH] at ho
 obtain ⟨xs',hp,b,es,cl,rfl,rfl,h1,h2,hB,h3⟩:=ho
 exact ⟨xs',hp,b,es,cl,rfl,hv.1,hf,hw (b,_) (List.mem_singleton.2 rfl),ent_of h1 h3,h2,hB⟩

theorem zB6 (tk tv:Ty){r:Option Operand}{K:AS→Prop}(hr:r=none) (k:K (st.new d (.map st.n) (.map tk tv []))) (hN:Nat.blt d N.n=true:=by rfl) : AOp P N X ⟨some d,.makeMap T r,U,pos,aft,g⟩ K st :=
 zBH fun Q fr w m ρ φ hc K' hK=>by
  subst hr
  refine zAo (v:=.map (some w.heap.size)) rfl hN (fun ac ha=>?_) ?_ (dk_new (zBh w (.map #[] 0)))
  ·simp [execOp,Instr.makeMap,newObj,Sem.run]
  ·refine hK _ _ _ _ _ _ (hc.newObj (h:=.map (some w.heap.size)) (f:=[(w.heap.size,.map #[] 0)]) (Mem.le_refl _) (hc.sh.alloc (zBh w _) rfl) ?_ ?_) k
   ·exact ⟨_,List.Perm.refl _,_,#[],0,rfl,rfl,rfl,by simp,⟨by simp,fun e he=>by simp at he⟩,fun i p e hp=>by simp at hp⟩
   ·simp only [RepA]; exact ⟨by rw [← hc.nρ]; simp,rfl⟩

theorem zCA {w:World}{b:Nat}{es:Array MapEntry}{cl:Nat}(h:w.heap[b]?=some (.map es cl)) : (getObj b).run P w=.ok (.map es cl) w:=by
 simp [getObj,Sem.run,h]

theorem run_lookup {w:World}{m:Mem}{tk tv:Ty} [DecidableEq tk.den] {xs:List (tk.den×tv.den)}{kx:tk.den}{kT eT b cl:Nat}{es:Array MapEntry}{v:Value}{ok:Bool}(hU:Und P T (.map kT eT)) (hK:KeyT P kT tk) (hZ:ZeroW P eT tv) (hw:w.heap[b]?=some (.map es cl)) (he:EntL m tk tv xs es.toList) (hk:RV m tk kx v) :
  ∃ u,RV m tv ((mget xs kx).getD tv.dflt) u∧(Instr.lookup T (.map (some b)) v ok).run P w=.ok (if ok then .tuple #[u,.bool (mget xs kx).isSome] else u) w:=by
 obtain ⟨r,h1,h2⟩:=hK.find m kx v tv xs es.toList w hk he
 have h3:=hK.chk m kx v es.isEmpty w hk
 cases r with
 | none =>
  obtain ⟨zv,h4,h5⟩:=hZ
  rw [h2]
  refine ⟨zv,h5 m,?_⟩
  simp only [Instr.lookup,Sem.run_bind,run_underlying hU,Result.andThen_ok,zCA hw,h3,h1,h4 w,Sem.run_pure]
  cases ok <;> simp
 | some q =>
  obtain ⟨q,u⟩:=q
  obtain ⟨y,h4,h5,_⟩:=h2
  rw [h4]
  refine ⟨u,h5,?_⟩
  simp only [Instr.lookup,Sem.run_bind,run_underlying hU,Result.andThen_ok,zCA hw,h3,h1,Sem.run_pure]
  cases ok <;> simp
theorem zBG {i kT eT:Nat}{tk tv:Ty} [DecidableEq tk.den] {xs:List (tk.den×tv.den)}{kx:tk.den}{r:AV}(hU:Und P T (.map kT eT)) (hK:KeyT P kT tk) (hZ:ZeroW P eT tv) (hx:aev st.l x=some (.map i)) (hy:aev st.l y=some (zBx tk kx)) (hH:st.H.get i=.map tk tv xs) (hno:tk.fit kx=true) (hr:zBx tv ((mget xs kx).getD tv.dflt)=r) (hN:Nat.blt d N.n=true:=by rfl) :
  AOpV P N X ⟨some d,.lookup T x y false,U,pos,aft,g⟩ r st :=
 zA6 rfl fun Q fr w m ρ φ hc=>by
  subst hr
  obtain ⟨v,h1,h2⟩:=hc.ev hx
  obtain ⟨u,h3,h4⟩:=hc.ev hy
  obtain ⟨xs',hp,b,es,cl,rfl,_,_,h5,h6,hn',_⟩:=own_map hc h2 hH
  rw [← zDV hp hn']
  obtain ⟨q,h7,h8⟩:=run_lookup (ok:=false) hU hK hZ h5 h6 (zCm hno h4)
  refine ⟨q,zB2 h7,fun K hk=>zAo rfl hN (fun ac ha=>?_) hk⟩
  simp only [execOp,ha.eval h1,ha.eval h3]
  rw [Sem.run_bind,h8]; rfl
theorem av_lookup2 {i kT eT:Nat}{tk tv:Ty} [DecidableEq tk.den] {xs:List (tk.den×tv.den)}{kx:tk.den}{r:AV}(hU:Und P T (.map kT eT)) (hK:KeyT P kT tk) (hZ:ZeroW P eT tv) (hx:aev st.l x=some (.map i)) (hy:aev st.l y=some (zBx tk kx)) (hH:st.H.get i=.map tk tv xs) (hno:tk.fit kx=true) (hr:.tup [zBx tv ((mget xs kx).getD tv.dflt),.bool (mget xs kx).isSome]=r) (hN:Nat.blt d N.n=true:=by rfl) :
  AOpV P N X ⟨some d,.lookup T x y true,U,pos,aft,g⟩ r st :=
 zA6 rfl fun Q fr w m ρ φ hc=>by
  subst hr
  obtain ⟨v,h1,h2⟩:=hc.ev hx
  obtain ⟨u,h3,h4⟩:=hc.ev hy
  obtain ⟨xs',hp,b,es,cl,rfl,_,_,h5,h6,hn',_⟩:=own_map hc h2 hH
  rw [← zDV hp hn']
  obtain ⟨q,h7,h8⟩:=run_lookup (ok:=true) hU hK hZ h5 h6 (zCm hno h4)
  refine ⟨.tuple #[q,.bool (mget xs' kx).isSome],?_,fun K hk=>zAo rfl hN (fun ac ha=>?_) hk⟩
  ·simp only [RepA]; exact ⟨[q,.bool (mget xs' kx).isSome],rfl,by simp only [RepL]; exact ⟨zB2 h7,zAx,trivial⟩⟩
  ·simp only [execOp,ha.eval h1,ha.eval h3]
   rw [Sem.run_bind,h8]; rfl
theorem zCa {i kT eT:Nat}{tk tv:Ty}{xs:List (tk.den×tv.den)}{ts:Array TypeId}{cl:Array Operand}(hc:cl=#[x]) (ht:ts=#[T]) (hU:Und P T (.map kT eT)) (hx:aev st.l x=some (.map i)) (hH:st.H.get i=.map tk tv xs) (hN:Nat.blt d N.n=true:=by rfl) :
  AOpV P N X ⟨some d,.call ⟨.builtin .len,cl,ts⟩,U,pos,aft,g⟩ (.int .i64 (xs.length : Int)) st :=
 zA6 rfl fun Q fr w m ρ φ hcc=>by
  obtain ⟨v,h1,h2⟩:=hcc.ev hx
  obtain ⟨xs',hp,b,es,cl',rfl,_,_,h5,h6,_⟩:=own_map hcc h2 hH
  have hl:=(ent_get h6).1
  refine ⟨_,zBK,fun K hk=>zAo rfl hN (fun ac ha=>?_) hk⟩
  subst hc ht
  have : es.size=xs.length:=by rw [← hp.length_eq]; simpa using hl
  simp [execOp,resolve,invoke,builtin,Builtin.len_,ha.eval h1,run_underlying hU,zCA h5,goInt,this]

theorem zDm {w:World}{b:Nat}{o o':Obj}(h:w.heap[b]?=some o) : Put w { w with heap:=w.heap.setIfInBounds b o' } b∧({ w with heap:=w.heap.setIfInBounds b o' } : World).heap[b]?=some o':=by
 have hlt:=(Array.getElem?_eq_some_iff.1 h).1
 refine ⟨⟨rfl,rfl,rfl,by simp,fun k hk=>?_⟩,?_⟩
 ·simp only; rw [Array.getElem?_setIfInBounds_ne (fun e=>hk e.symm)]
 ·simp only; rw [Array.getElem?_setIfInBounds_self_of_lt hlt]

theorem ent_set {m:Mem}{tk tv:Ty} [DecidableEq tk.den] {kx:tk.den}{vx:tv.den}{kv vv:Value}(hk:RV m tk kx kv) (hv:RV m tv vx vv) : ∀ {x:List (tk.den×tv.den)}{es:List MapEntry}{i:Nat},EntL m tk tv x es→(x[i]?).map (·.1)=some kx→(∀ j,j < i→(x[j]?).map (·.1)≠some kx)→∀ (f:MapEntry→MapEntry),(∀ e,(f e).key=kv∧(f e).val=vv)→EntL m tk tv (mset x kx vx) (es.modify i f):=by
 intro x
 induction x with
 | nil=>intro es i h hi _ f _; simp at hi
 | cons p x ih =>
  intro es i h hi hj f hf
  cases es with
  | nil=>exact h.elim
  | cons e es =>
   cases i with
   | zero =>
    simp at hi
    simp only [mset,if_pos hi.symm,List.modify_zero_cons]
    exact ⟨⟨by rw [(hf e).1]; exact hk,by rw [(hf e).2]; exact hv⟩,h.2⟩
   | succ i =>
    have hne : ¬ kx=p.1:=by
     have:=hj 0 (by omega)
     simp at this
     exact fun e=>this e.symm
    simp only [mset,if_neg hne,List.modify_succ_cons]
    exact ⟨h.1,ih h.2 (by simpa using hi) (fun j hjj=>by simpa using hj (j+1) (by omega)) f hf⟩
theorem ent_push {m:Mem}{tk tv:Ty} [DecidableEq tk.den] {kx:tk.den}{vx:tv.den}{kv vv:Value}{bn:Nat}(hk:RV m tk kx kv) (hv:RV m tv vx vv) : ∀ {x:List (tk.den×tv.den)}{es:List MapEntry},EntL m tk tv x es→mget x kx=none→EntL m tk tv (mset x kx vx) (es++[{ key:=kv,val:=vv,born:=bn }]):=by
 intro x
 induction x with
 | nil=>intro es h _; cases es with
  | nil=>exact ⟨⟨hk,hv⟩,trivial⟩
  | cons=>exact h.elim
 | cons p x ih =>
  intro es h hn
  cases es with
  | nil=>exact h.elim
  | cons e es =>
   simp only [mget] at hn
   split at hn
   ·cases hn
   ·rename_i hne
    simp only [mset,if_neg hne,List.cons_append]
    exact ⟨h.1,ih h.2 hn⟩

theorem births_push {es:Array MapEntry}{cl:Nat}(h:zCP es cl) (k v:Value) : zCP (es.push { key:=k,val:=v,born:=cl }) (cl+1):=by
 obtain ⟨h1,h2⟩:=h
 refine ⟨?_,fun e he=>?_⟩
 ·rw [Array.toList_push,List.map_append,List.nodup_append]
  refine ⟨h1,by simp,fun a ha b hb e=>?_⟩
  subst e
  obtain ⟨q,hq,rfl⟩:=List.mem_map.1 ha
  have:=h2 q hq
  simp at hb
  omega
 ·rw [Array.toList_push,List.mem_append] at he
  rcases he with he | he
  ·have:=h2 e he; omega
  ·simp at he; subst he; simp
theorem born_modify {es:Array MapEntry}(i:Nat) (f:MapEntry→MapEntry) (hf:∀ e,(f e).born=e.born) : (es.modify i f).toList.map (·.born)=es.toList.map (·.born):=by
 apply List.ext_getElem?
 intro j
 simp only [List.getElem?_map,Array.getElem?_toList,Array.getElem?_modify]
 split
 ·cases es[j]? <;> simp [hf]
 ·rfl
theorem births_modify {es:Array MapEntry}{cl:Nat}(h:zCP es cl) (i:Nat) (f:MapEntry→MapEntry) (hf:∀ e,(f e).born=e.born) : zCP (es.modify i f) cl:=by
 obtain ⟨h1,h2⟩:=h
 refine ⟨by rw [born_modify i f hf]; exact h1,fun e he=>?_⟩
 have : e.born∈(es.modify i f).toList.map (·.born):=List.mem_map.2 ⟨e,he,rfl⟩
 rw [born_modify i f hf] at this
 obtain ⟨q,hq,hb⟩:=List.mem_map.1 this
 have:=h2 q hq
 omega
theorem run_mapUpdate {w:World}{m:Mem}{tk tv:Ty} [DecidableEq tk.den] {xs:List (tk.den×tv.den)}{kx:tk.den}{vx:tv.den}{kT eT b cl:Nat}{es:Array MapEntry}{kv vv:Value}(hU:Und P T (.map kT eT)) (hK:KeyT P kT tk) (hw:w.heap[b]?=some (.map es cl)) (he:EntL m tk tv xs es.toList) (hk:RV m tk kx kv) (hv:RV m tv vx vv) :
  ∃ es' cl',(Instr.mapUpdate T (.map (some b)) kv vv).run P w=.ok () { w with heap:=w.heap.setIfInBounds b (.map es' cl') }∧EntL m tk tv (mset xs kx vx) es'.toList∧(zCP es cl→zCP es' cl'):=by
 obtain ⟨r,h1,h2⟩:=hK.find m kx kv tv xs es.toList w hk he
 have h3:=hK.chk m kx kv false w hk
 have hset : ∀ o,(setObj b o).run P w=.ok () { w with heap:=w.heap.setIfInBounds b o }:=fun o=>by simp [setObj,Sem.run,hw]
 cases r with
 | none =>
  refine ⟨es.push { key:=kv,val:=vv,born:=cl },cl+1,?_,?_⟩
  ·simp only [Instr.mapUpdate,Sem.run_bind,run_underlying hU,Result.andThen_ok,zCA hw,h3,h1,hset]
  ·exact ⟨by rw [Array.toList_push]; exact ent_push hk hv he h2,fun h=>births_push h kv vv⟩
 | some q =>
  obtain ⟨q,u⟩:=q
  obtain ⟨y,h4,h5,h6,⟨e,h7⟩,h8⟩:=h2
  obtain ⟨_,hg⟩:=ent_get he
  obtain ⟨p,hp,hpk⟩:=Option.map_eq_some_iff.1 h6
  have hke:=(hg q p e hp h7).1
  rw [hpk] at hke
  have h9:=hK.stays m kx e.key kv w hke hk
  have h10 : es[q]?=some e:=by simpa using h7
  refine ⟨es.modify q fun e=>{ e with key:=kv,val:=vv },cl,?_,?_⟩
  ·simp only [Instr.mapUpdate,Sem.run_bind,run_underlying hU,Result.andThen_ok,zCA hw,h3,h1,h10,Option.map_some,Option.getD_some,h9,hset]
  ·exact ⟨by rw [Array.toList_modify]; exact ent_set hk hv he h6 h8 _ (fun e=>⟨rfl,rfl⟩),fun h=>births_modify h q _ (fun _=>rfl)⟩

theorem zB {i kT eT:Nat}{tk tv:Ty} [DecidableEq tk.den] {xs:List (tk.den×tv.den)}{kx:tk.den}{vx:tv.den}{o:Oper}{K:AS→Prop}(hU:Und P T (.map kT eT)) (hK:KeyT P kT tk) (ho:o.op=.mapUpdate T x y z∨o.op=.insert T x y z) (hd:o.dst=none) (hx:aev st.l x=some (.map i)) (hy:aev st.l y=some (zBx tk kx)) (hz:aev st.l z=some (zBx tv vx)) (hH:st.H.get i=.map tk tv xs) (hno:tk.fit kx=true) (hno':tv.fit vx=true)
  (k:K (st.upd i (.map tk tv (mset xs kx vx)))) : AOp P N X o K st :=
 zBH fun Q fr w m ρ φ hc K' hK'=>by
  obtain ⟨v,h1,h2⟩:=hc.ev hx
  obtain ⟨kv,h3,h4⟩:=hc.ev hy
  obtain ⟨vv,h5,h6⟩:=hc.ev hz
  obtain ⟨xs',hp,b,es,cl,rfl,hρ,hf,hw,he,hnd,hBi⟩:=own_map hc h2 hH
  obtain ⟨es',cl',hr,he',hBi'⟩:=run_mapUpdate hU hK hw he (zCm hno h4) (zCm hno' h6)
  obtain ⟨hP,hb'⟩:=zDm (o':=.map es' cl') hw
  have hfr:=hc.front hf
  obtain ⟨g1,g2⟩:=ent_get he'
  refine op_skip (w':={ w with heap:=w.heap.setIfInBounds b (.map es' cl') }) hd (fun ac ha=>?_) ?_ (dk_put hP hw rfl) ?_
  ·rcases ho with ho | ho <;> simp only [execOp,ho,ha.eval h1,ha.eval h3,ha.eval h5,Sem.run_bind,hr] <;> rfl
  ·exact hK' _ _ (st.upd i (.map tk tv (mset xs kx vx))) _ _ _ (hc.turn hρ hf (f':=[(b,.map es' cl')]) (hfr.put hP hb' rfl) ⟨_,mset_perm hp hnd kx vx,b,es',cl',rfl,rfl,g1,zBZ _ _ hnd,hBi' hBi,g2⟩) k
  ·rcases ho with ho | ho <;> simp [nodef,ho]
end
end Go.Ab
namespace Go.Ab
open Go.RowKit Go.Shelf Go.Proofs Go.Eng

section
variable {P:Program} {N:Ev}
end
section
variable {P:Program} {N:Ev} {X:Cx} {Q:zBa} {st:AS}
end
end Go.Ab
namespace Go.Ab
open Go.RowKit Go.Shelf Go.Proofs Go.Eng

theorem zCh {P:Program}{T E:Nat}{t:Ty}{z:Value}(h1:P.underlying T=some (.slice E)) (h2:(P.info? E).map (fun i=>(i.zero,i.size))=some (some z,t.cells)) (hz:z.cells.toList=zeroV t) : BuildS P T E t:=by
 cases hi : P.info? E with
 | none=>rw [hi] at h2; cases h2
 | some i=>rw [hi] at h2; simp at h2; exact ⟨h1,i,z,hi,h2.1,h2.2,hz⟩

abbrev w64 (z:Int) : Int:=IntKind.wrap .i64 z
theorem zAN {α:Type}{c:Bool}{a:Option α}{r:α}(h:(bif c then a else none)=some r) : c=true∧a=some r:=by
 cases c with
 | true=>exact ⟨rfl,h⟩
 | false=>cases h
theorem zA {α β:Type}{o:Option α}{f:α→Option β}{r:β}(h:o.bind f=some r) : ∃ x,o=some x∧f x=some r:=Option.bind_eq_some_iff.1 h
theorem zD1 {α:Type}{c:Bool}{a b:Option α}{r:α}(hc:c=true) (h:(bif c then a else b)=some r) : a=some r:=by subst hc; exact h
theorem zD2 {α:Type}{c:Bool}{a b:Option α}{r:α}(hc:c=false) (h:(bif c then a else b)=some r) : b=some r:=by subst hc; exact h
theorem imp_g {g c:Bool}(h:(!g||c)=true) (hg:g=true) : c=true:=by subst hg; simpa using h
theorem zAz {α:Type} [Inhabited α] {g:Bool}{o:Option α}(h:(!g||o.isSome)=true) (hg:g=true) : o=some (o.getD default):=by
 subst hg
 cases o with
 | none=>simp at h
 | some x=>rfl

def rng {S R:Type}(g:Int→S→Option (S ⊕ R)) : Nat→Int→S→Option (S ⊕ R)
 | 0,_,s=>some (.inl s)
 | k+1,i,s=>(g i s).bind fun o=>match o with
  | .inl s'=>rng g k (i+1) s'
  | .inr r=>some (.inr r)
def rb {S R:Type}(n:Int) (g:Int→S→Option (S ⊕ R)) (p:Int×S) : Option ((Int×S) ⊕ (S ⊕ R)) :=
 bif decide (p.1 < n) then (g p.1 p.2).bind fun o=>match o with
  | .inl s'=>some (.inl (w64 (p.1+1),s'))
  | .inr r=>some (.inr (.inr r))
 else some (.inr (.inl p.2))
theorem rng_lrun {S R:Type}{n:Int}{g:Int→S→Option (S ⊕ R)}(hn:n≤9223372036854775807) : ∀ (k:Nat) (i:Int) (s:S) (o:S ⊕ R),(n - i).toNat=k→0≤i→rng g k i s=some o→lrun (rb n g) (k+1) (i,s)=some o:=by
 intro k
 induction k with
 | zero =>
  intro i s o hk h0 h
  simp only [rng,Option.some.injEq] at h
  subst h
  have : decide (i < n)=false:=by simp; omega
  simp [lrun,rb,this]
 | succ k ih =>
  intro i s o hk h0 h
  simp only [rng] at h
  obtain ⟨q,hq,h⟩:=zA h
  have hlt : decide (i < n)=true:=by simp; omega
  have hw : w64 (i+1)=i+1:=wrap_i64 (by omega)
  rw [lrun,rb,hlt,cond_true,hq]
  cases q with
  | inl s'=>simp only [Option.bind_some,hw]; exact ih (i+1) s' o (by omega) (by omega) h
  | inr r=>simpa using h

def joinQ {S R:Type}(X:Cx) (M:S→AS) (Qx:R→zBa) : S ⊕ R→zBa
 | .inl s,.normal,st=>Wk X st (M s)
 | .inl _,_,_=>False
 | .inr _,.normal,_=>False
 | .inr r,e,st=>Qx r e st

section
variable {P:Program} {N:Ev} {X:Cx} {Q:zBa} {st:AS}
theorem zCZ {c:Operand}{x y:Code}(hc:aev st.l c=some (.bool true)) (ht:AWC P N X x Q st) : AWC P N X (.cond c x y) Q st:=zAO hc (fun _=>ht) (fun h=>by cases h)
theorem zA3 {c:Operand}{x y:Code}(hc:aev st.l c=some (.bool false)) (ht:AWC P N X y Q st) : AWC P N X (.cond c x y) Q st:=zAO hc (fun h=>by cases h) (fun _=>ht)

theorem zAy {S R:Type}{c d:Code}(M:S→AS) (Qx:R→zBa){p:Option (S ⊕ R)}{o:S ⊕ R}(hp:p=some o) (h1:p=some o→AWC P N X c (joinQ X M Qx o) st) (h2:∀ s,o=.inl s→AWC P N X d Q (M s)) (h3:∀ r,o=.inr r→∀ e st,e≠.normal→Qx r e st→Q e st) : AWC P N X (.seq c d) Q st:=by
 refine zDO (awc_mono ?_ (h1 hp))
 intro e st' hq
 cases o with
 | inl s =>
  cases e with
  | normal=>exact zAY hq (h2 s rfl)
  | _=>exact hq.elim
 | inr r =>
  cases e with
  | normal=>exact hq.elim
  | ret=>exact h3 r rfl _ _ (by simp) hq
  | exit i=>exact h3 r rfl _ _ (by simp) hq
  | goto i=>exact h3 r rfl _ _ (by simp) hq
  | panic i=>exact h3 r rfl _ _ (by simp) hq
  | outgrown=>exact h3 r rfl _ _ (by simp) hq

theorem zAI {S R:Type}{c:Code}(n:Int) (g:Int→S→Option (S ⊕ R)) (Inv:Int×S→AS) (Qx:S ⊕ R→zBa){s:S}{o:S ⊕ R}(hn:n≤9223372036854775807) (hr:rng g n.toNat 0 s=some o) (hi:Wk X st (Inv (0,s))) (hQ:∀ e st,Qx o e st→Q e st)
  (body:∀ i s o,rb n g (i,s)=some o→AWC P N X c (loopQ X Inv Qx o) (Inv (i,s))) : AWC P N X (.loop c) Q st :=
 awc_loop Inv (rb n g) Qx (rng_lrun hn n.toNat 0 s o (by omega) (Int.le_refl _) hr) hi hQ fun p o h=>body p.1 p.2 o h
theorem zA7 {S R:Type}{n i:Int}{g:Int→S→Option (S ⊕ R)}{s:S}{o:(Int×S) ⊕ (S ⊕ R)}(hc:decide (i < n)=true) (h:rb n g (i,s)=some o) : ∃ q,g i s=some q∧o=match q with
  | .inl s'=>.inl (w64 (i+1),s')
  | .inr r=>.inr (.inr r):=by
 unfold rb at h
 simp only [hc,cond_true] at h
 obtain ⟨q,hq,h⟩:=zA h
 refine ⟨q,hq,?_⟩
 cases q with
 | inl s'=>simp at h; exact h.symm
 | inr r=>simp at h; exact h.symm
theorem zA8 {S R:Type}{n i:Int}{g:Int→S→Option (S ⊕ R)}{s:S}{o:(Int×S) ⊕ (S ⊕ R)}(hc:decide (i < n)=false) (h:rb n g (i,s)=some o) : o=.inr (.inl s):=by
 unfold rb at h
 simp only [hc,cond_false] at h
 simp at h; exact h.symm

theorem zAb {c:Code}{t:Nat}{ty:Ty}{x:List ty.den}(hx:st.l.look t=some (.sl ty x)) (k:x.length≤zC8→AWC P N X c Q st) : AWC P N X c Q st:=by
 intro fr w m ρ φ hc
 obtain ⟨v,h1,h2⟩:=hc.slots t _ hx
 simp only [RepA] at h2
 obtain ⟨_,_,_,_,h3,_⟩:=rc_slice h2
 exact k h3 fr w m ρ φ hc
theorem zA5 {c:Code}{i:Nat}{E:TypeId}{ty:Ty}{x:List ty.den}(hH:st.H.get i=.sl E ty x) (hn:Nat.blt i st.n=true) (k:x.length≤zC8→AWC P N X c Q st) : AWC P N X c Q st:=by
 intro fr w m ρ φ hc
 have hi : i < ρ.length:=by rw [hc.nρ]; simpa using hn
 obtain ⟨f,_,ho,_⟩:=hc.obj (List.getElem?_eq_getElem hi)
 rw [hH] at ho
 exact k ho.1 fr w m ρ φ hc
theorem zAf {n:Nat}(h:n≤zC8) : ((n:Nat) : Int)≤9223372036854775807:=by
 have : zC8=140737488355328:=rfl
 omega

theorem frz_conc {fr:Fr}{w:World}{m:Mem}{ρ:List Value}{φ:List Frag}(hc:Conc X st fr w m ρ φ){i:Nat}{E:TypeId}{ty:Ty}{x:List ty.den}(hH:st.H.get i=.sl E ty x){v:Value}(hv:RepA m ρ (.osl i) v) :
  ∃ m',m.le m'∧Conc X (st.upd i .dead) fr w m' ρ (φ.set i [])∧RepA m' ρ (.sl ty x) v:=by
 simp only [RepA] at hv
 obtain ⟨f,hf,ho,hw⟩:=hc.obj hv.1
 rw [hH] at ho
 have hfr:=hc.front hf
 have hz:=hfr.frz
 have hle:=Mem.le_add m f
 have h2 : Conc X (st.upd i .dead) fr w (m.add f) ρ (φ.set i []):=by
  refine ⟨hc.mle.trans hle,hc.pre,hc.nρ,by rw [List.length_set]; exact hc.nφ,fun t a ha=>let ⟨v,h3,h4⟩:=hc.slots t a ha; ⟨v,h3,RepA.mono hle (fun _ _ h=>h) a h4⟩,?_,?_⟩
  ·intro j hd g hj hg
   simp only [AS.upd,AH.get_cons]
   by_cases e : i=j
   ·subst e
    rw [if_pos rfl]
    rw [List.getElem?_set_self (List.getElem?_eq_some_iff.1 hf).1] at hg
    cases hg; rfl
   ·rw [if_neg e]
    rw [List.getElem?_set_ne e] at hg
    exact (hc.objs j hd g hj hg).mono hle (fun _ _ h=>h)
  ·refine hz.perm ?_
   exact ((zBl hf []).2.append_right _).symm
 refine ⟨m.add f,hle,h2,?_⟩
 simp only [RepA]
 have hnd:=hfr.nd
 rw [List.map_append,List.nodup_append] at hnd
 obtain ⟨h0,⟨rfl,rfl,rfl⟩ | ⟨b,c,cs,vs,h3,h4,q1,q2,q3,q4,q5⟩⟩:=ho
 ·simp only [RC]; exact ⟨none,0,0,rfl,rfl,Nat.le_refl _,Nat.zero_le _,0,0,fun h=>absurd h (by omega),fun i y hy=>by simp at hy⟩
 ·subst h4
  rw [h3]
  exact zCy (add_get (o:=.cells cs E (0,0)) hnd.1 (List.mem_singleton.2 rfl) (hfr.dis (b,.cells cs E (0,0)) (by simp)) rfl) (q4.mono hle) q5 q1 h0
def putAll (l:AFr) (a:AV) : List Nat→AFr
 | []=>l
 | t::r=>(t,a)::putAll l a r
theorem wk_frz (ts:List Nat) (i:Nat){E:TypeId}{ty:Ty}{x:List ty.den}(hi:Nat.blt i st.n=true) (hH:st.H.get i=.sl E ty x) (ht:ts.map st.l.look=ts.map fun _=>some (.osl i)) : Wk X st ⟨putAll st.l (.sl ty x) ts,(i,.dead)::st.H,st.n⟩:=by
 intro fr w m ρ φ hc
 cases ts with
 | nil =>
  have hil : i < ρ.length:=by rw [hc.nρ]; simpa using hi
  obtain ⟨f,hf,ho,_⟩:=hc.obj (List.getElem?_eq_getElem hil)
  rw [hH] at ho
  have hone : (ρ[i]'hil).oneCell'=true:=by
   obtain ⟨_,⟨_,h,_⟩ | ⟨_,_,_,_,h,_⟩⟩:=ho <;> rw [h] <;> rfl
  obtain ⟨m',_,h,_⟩:=frz_conc hc hH (v:=ρ[i]'hil) (by simp only [RepA]; exact ⟨List.getElem?_eq_getElem hil,hone⟩)
  exact ⟨m',ρ,_,h⟩
 | cons t r =>
  have h0 : st.l.look t=some (.osl i):=by simp at ht; exact ht.1
  obtain ⟨v,h1,h2⟩:=hc.slots t _ h0
  obtain ⟨m',h3,h4,h5⟩:=frz_conc hc hH h2
  simp only [RepA] at h2
  refine ⟨m',ρ,_,h4.mle,h4.pre,h4.nρ,h4.nφ,?_,h4.objs,h4.sh⟩
  have key : ∀ (us:List Nat),(us.map st.l.look=us.map fun _=>some (.osl i))→∀ q a,(putAll st.l (.sl ty x) us).look q=some a→∃ u,fr.look q=some u∧RepA m' ρ a u:=by
   intro us
   induction us with
   | nil=>intro _ q a hq; exact h4.slots q a hq
   | cons s us ih =>
    intro hs q a hq
    simp only [List.map_cons,List.cons.injEq] at hs
    simp only [putAll,AFr.look_cons] at hq
    split at hq
    ·rename_i e; subst e; cases hq
     obtain ⟨u,g1,g2⟩:=hc.slots s _ hs.1
     simp only [RepA] at g2
     have : u=v:=by have:=g2.1.symm.trans h2.1; exact Option.some.inj this
     subst this
     exact ⟨_,g1,h5⟩
    ·exact ih hs.2 q a hq
  exact key _ ht

end
section
variable {P:Program} {N:Ev} {X:Cx} {Q:zBa} {st:AS}
variable {d:Nat} {T U T':TypeId} {pos:String} {aft:Array Edge} {g:Option (Nat×Bool)} {x y:Operand}
theorem allM_nil {w:World}{b:Nat}{o:Obj}(h:w.heap[b]?=some o) (hc:ctl o=false) : allM w [] b=some o:=by unfold allM; simp [h,Option.filter,hc]
theorem of_allM {w:World}{b:Nat}{o:Obj}(h:allM w [] b=some o) : w.heap[b]?=some o∧ctl o=false:=by
 unfold allM at h
 simp only [List.map_nil,List.contains_nil,Bool.false_eq_true,if_false] at h
 have:=Option.filter_eq_some_iff.1 h
 exact ⟨this.1,by simpa using this.2⟩
theorem bor_rep {fr:Fr}{w:World}{m:Mem}{ρ:List Value}{φ:List Frag}(hc:Conc X st fr w m ρ φ){a:AV}{v:Value}(h:RepA m ρ a v) : RepA (allM w []) [] (zBI st.H [] 4 a) v:=by
 have hle : m.le (allM w []):=fun b o hb=>allM_nil (hc.sh.fz b o hb) (hc.sh.mctl b o hb)
 refine coe_rep (φ:=φ) hle (fun i j h hp=>by simp [posN] at hp) (fun i h _ hi=>?_) 4 h
 obtain ⟨f,hf,h1,hw⟩:=hc.obj hi
 exact ⟨f,h1,fun p hp hpc=>allM_nil (hw p hp) hpc⟩
theorem bor_repL {fr:Fr}{w:World}{m:Mem}{ρ:List Value}{φ:List Frag}(hc:Conc X st fr w m ρ φ) : ∀ {as':List AV}{vs:List Value},RepL m ρ as' vs→RepL (allM w []) [] (as'.map (zBI st.H [] 4)) vs:=by
 intro as'
 induction as' with
 | nil=>intro vs h; cases vs with
  | nil=>simp [RepL]
  | cons=>simp [RepL] at h
 | cons a as' ih=>intro vs h; cases vs with
  | nil=>simp [RepL] at h
  | cons v vs=>simp only [List.map_cons,RepL] at h ⊢; exact ⟨bor_rep hc h.1,ih h.2⟩
def flatT : AV→Bool
 | .tup vs=>vs.all flatB
 | a=>flatB a
theorem flatT_rep {m m':Mem}{ρ ρ':List Value}{a:AV}{v:Value}(hf:flatT a=true) (h:RepA m ρ a v) : RepA m' ρ' a v:=by
 have hflat : ∀ {a:AV} {v:Value},flatB a=true→RepA m ρ a v→RepA m' ρ' a v:=by
  intro a v hf h
  cases a <;> simp [flatB] at hf <;> simpa only [RepA] using h
 have hL : ∀ {as':List AV} {vs:List Value},(as'.all flatB)=true→RepL m ρ as' vs→RepL m' ρ' as' vs:=by
  intro as'
  induction as' with
  | nil=>intro vs _ h; cases vs with
   | nil=>simp [RepL]
   | cons=>simp [RepL] at h
  | cons a as' ih=>intro vs hf h; cases vs with
   | nil=>simp [RepL] at h
   | cons v vs=>simp only [List.all_cons,Bool.and_eq_true] at hf; simp only [RepL] at h ⊢; exact ⟨hflat hf.1 h.1,ih hf.2 h.2⟩
 cases a with
 | tup vs=>simp only [flatT] at hf; simp only [RepA] at h ⊢; obtain ⟨us,h1,h2⟩:=h; exact ⟨us,h1,hL hf h2⟩
 | int=>exact hflat hf h
 | bool=>exact hflat hf h
 | str=>exact hflat hf h
 | _=>simp [flatT,flatB] at hf
theorem le_allM {e w:World}{m:Mem}{f:Frag}(h:SH e w m f) : m.le (allM w []):=fun b o hb=>allM_nil (h.fz b o hb) (h.mctl b o hb)
theorem av_callN {f:FuncId}{xs:List Operand}{as' bs rs:List AV}{ts:Array TypeId}{r:AV}(hr:RunsM X.m P f bs [] fun r H'=>r=rs∧H'=[]) (hf:Enters P f) (hx:xs.map (aev st.l)=as'.map some) (hcv:cvL bs as') (hrs:tupA rs=r) (hcl:renL [] bs=bs:=by rfl) (hN:Nat.blt d N.n=true:=by rfl) :
  AOpV P N X ⟨some d,.call ⟨.value (.func f),xs.toArray,ts⟩,U,pos,aft,g⟩ r st:=by
 intro Q fr w m ρ φ hc
 obtain ⟨vs,h1,h2⟩:=hc.evl hx
 subst hrs
 refine zDf hf h1 (ret_pure hr hcl hc (cvL_rep hcv h2)) hN ?_
 rintro v w' ⟨hb,m',h3,h4,h5⟩
 exact ⟨d,v,rfl,rfl,hb,m',h3,h4,h5⟩
theorem zAj {f:FuncId}{xs:List Operand}{as' bs rs:List AV}{ts:Array TypeId}{r:AV}(hr:RunsM X.m P f bs [] fun r H'=>r=rs∧H'=[]) (hf:Enters P f) (hx:xs.map (aev st.l)=as'.map some) (hbs:cvL bs (as'.map (zBI st.H [] 4))) (hrs:tupA rs=r) (hfl:flatT r=true) (hN:Nat.blt d N.n=true:=by rfl) :
  AOpV P N X ⟨some d,.call ⟨.value (.func f),xs.toArray,ts⟩,U,pos,aft,g⟩ r st:=by
 intro Q fr w m ρ φ hc
 obtain ⟨vs,h1,h2⟩:=hc.evl hx
 subst hrs
 have hv : RepL (allM w []) [] bs vs:=cvL_rep hbs (bor_repL hc h2)
 have hsh : SH X.e w (allM w []) []:=⟨hc.sh.os,hc.sh.tape,hc.sh.output,fun b o hb=>(of_allM hb).1,fun p hp=>by simp at hp,by simp,fun p hp=>by simp at hp,fun p hp=>by simp at hp,fun b o hb=>(of_allM hb).2,hc.sh.esz⟩
 have hret : Ret P f vs.toArray w fun v w'=>Below w.heap.size w w'∧RepA m ρ (tupA rs) v:=by
  refine Calls.mono (hr X.e w _ [] [] [] vs (hc.mle.trans (le_allM hc.sh)) hv ⟨rfl,rfl,fun i o h f hi=>by simp at hi⟩ (by simpa using hsh)) ?_
  rintro e w' ⟨v,he,hd,rs',H',m',ρ',φ',⟨rfl,rfl⟩,hm,_,_,ho,hs,us,hu,rfl⟩
  have hφ : φ'=[]:=List.eq_nil_of_length_eq_zero ho.nφ
  subst hφ
  exact ⟨_,he,hd,zDq hsh (by simpa using hs) hm hd.2 hd.1,flatT_rep hfl (zBM hu)⟩
 refine zDf hf h1 hret hN ?_
 rintro v w' ⟨hb,h5⟩
 exact ⟨d,v,rfl,rfl,hb,m,Mem.le_refl _,hc.sh.ext hb,h5⟩
structure FnIn (P:Program) (f:FuncId) (caps:List AV) : Prop where
 ent : Enters P f
theorem ret_pure0 {f:FuncId}{as' rs:List AV}{fr:Fr}{w:World}{m:Mem}{ρ:List Value}{φ:List Frag}{vs:List Value}(hr:RunsM X.m P f as' [] fun r H'=>r=rs∧H'=[]) (hc:Conc X st fr w m ρ φ) (hv:RepL m [] as' vs) :
  Ret P f vs.toArray w fun v w'=>Below w.heap.size w w'∧∃ m',m.le m'∧SH X.e w' m' (φ.flatten++X.F)∧RepA m' ρ (tupA rs) v:=by
 obtain ⟨h1,h2⟩:=sh_all hc.sh
 have:=hr X.e w _ [] [] (φ.flatten++X.F) vs (hc.mle.trans h2) (RepL.mono h2 (fun _ _ h=>h) _ hv) ⟨rfl,rfl,fun i o h f hi=>by simp at hi⟩ (by simpa using h1)
 refine Calls.mono this ?_
 rintro e w' ⟨v,he,hd,rs',H',m',ρ',φ',⟨rfl,rfl⟩,hm,_,_,ho,hs,us,hu,rfl⟩
 have hρ : ρ'=[]:=List.eq_nil_of_length_eq_zero ho.nρ
 have hφ : φ'=[]:=List.eq_nil_of_length_eq_zero ho.nφ
 subst hρ hφ
 have hs' : SH X.e w' m' (φ.flatten++X.F):=by simpa using hs
 exact ⟨_,he,hd,zDq h1 hs' hm hd.2 hd.1,m',h2.trans hm,hs',RepA.mono (Mem.le_refl _) (fun i h hi=>by simp at hi) _ (zBM hu)⟩
theorem rep_clo_fn {m:Mem}{ρ:List Value}{f:FuncId}{caps:List AV}{v:Value}(h:RepA m ρ (.clo (.fn f [] caps)) v) : ∃ ws : List Value,v=.func (.func f) #[] ws.toArray∧RepL m [] caps ws:=by
 simp only [RepA] at h
 obtain ⟨us,ws,rfl,h5,h6⟩:=h
 cases us with
 | nil=>exact ⟨ws,rfl,h6⟩
 | cons=>simp [RepL] at h5
theorem av_callq {f:FuncId}{fx:Operand}{caps:List AV}{xs:List Operand}{as' rs:List AV}{ts:Array TypeId}{r:AV}(hfx:aev st.l fx=some (.clo (.fn f [] caps))) (hr:RunsM X.m P f (as'++caps) [] fun r H'=>r=rs∧H'=[]) (hf:FnIn P f caps) (hx:xs.map (aev st.l)=as'.map some) (hrs:tupA rs=r) (hcl:renL [] as'=as') (hN:Nat.blt d N.n=true:=by rfl) :
  AOpV P N X ⟨some d,.call ⟨.value fx,xs.toArray,ts⟩,U,pos,aft,g⟩ r st:=by
 intro Q fr w m ρ φ hc
 obtain ⟨vs,h1,h2⟩:=hc.evl hx
 obtain ⟨v,h3,h4⟩:=hc.ev hfx
 obtain ⟨ws,rfl,h6⟩:=rep_clo_fn h4
 subst hrs
 have h2' : RepL m [] as' vs:=by
  refine zB3 (σ:=[]) (ρ:=ρ) (fun i j u hi _=>by simp at hi) as' ?_
  rw [hcl]; exact h2
 refine op_callv (args:=(vs++ws).toArray) h3 hf.ent h1 (by simp) (ret_pure0 hr hc (h2'.app h6)) hN ?_
 rintro v w' ⟨hb,m',h7,h8,h9⟩
 exact ⟨d,v,rfl,rfl,hb,m',h7,h8,h9⟩
end
end Go.Ab
namespace Go.Ab
open Go.RowKit Go.Shelf Go.Proofs Go.Eng

def Consec (m:Nat) (ops:List Oper) : Prop:=∀ (i:Nat) (o:Oper),m < i→ops[i]?=some o→∃ e∈o.after,Region.binds .any e=true∧e.on=i - 1
def Shut (ops:List Oper) (listed:Array Bool) : Prop:=∀ (i:Nat) (o:Oper),ops[i]?=some o→listed[i]?=some true→∀ e∈o.after,Region.binds .any e=true→listed[e.on]?=some true
def nextOk (m:Nat) (ops:List Oper) (nx:List Nat) : Bool:=(nx.zipIdx).all (fun (q,j)=>Nat.blt j q&&Nat.ble q m&&(match ops[q]? with
 | some o=>o.after.toList.any fun e=>Region.binds .any e&&Nat.beq e.on j
 | none=>false))&&Nat.beq nx.length m
theorem next_all {m:Nat}{ops:List Oper}{nx:List Nat}(h:nextOk m ops nx=true){listed:Array Bool}(hs:listed.size=ops.length) (hcl:Shut ops listed){k:Nat}{o:Oper}(hk:m≤k) (ho:ops[k]?=some o) (hrd:∀ e∈o.after,Region.binds .any e=true→listed[e.on]?=some true) (hcons:Consec m ops) :
  ∀ j,j < m→listed[j]?=some true:=by
 simp only [nextOk,Bool.and_eq_true,List.all_eq_true] at h
 obtain ⟨h1,h2⟩:=h
 have h2:=Nat.eq_of_beq_eq_true h2
 -- the tail's first operation is listed, or it is this one
 have hm : m=k∨listed[m]?=some true:=by
  have key : ∀ d,m+d=k→m=k∨listed[m]?=some true:=by
   intro d hd
   by_cases e : d=0
   ·left; omega
   ·right
    have : ∀ q,q < d→listed[k - 1 - q]?=some true:=by
     intro q
     induction q with
     | zero =>
      intro _
      obtain ⟨e,he,hb,hon⟩:=hcons k o (by omega) ho
      have:=hrd e he hb
      rw [hon] at this; simpa using this
     | succ q ih =>
      intro hq
      have h3:=ih (by omega)
      have hlt:=(Array.getElem?_eq_some_iff.1 h3).1
      have ho' : ops[k - 1 - q]?=some (ops[k - 1 - q]'(by omega)):=List.getElem?_eq_getElem _
      obtain ⟨e,he,hb,hon⟩:=hcons _ _ (by omega) ho'
      have:=hcl _ _ ho' h3 e he hb
      rw [hon] at this
      rw [show k - 1 - (q+1)=k - 1 - q - 1 by omega]; exact this
    have:=this (d - 1) (by omega)
    rwa [show k - 1 - (d - 1)=m by omega] at this
  exact key (k - m) (by omega)
 have key : ∀ d j,m - j≤d→j < m→listed[j]?=some true:=by
  intro d
  induction d with
  | zero=>intro j h1 h2; omega
  | succ d ih =>
   intro j hd hj
   obtain ⟨q,hq⟩ : ∃ q,nx[j]?=some q:=⟨_,List.getElem?_eq_getElem (by omega)⟩
   have h3:=h1 (q,j) (by rw [List.mem_zipIdx_iff_getElem?]; simpa using hq)
   simp only [Bool.and_eq_true,Nat.blt_eq] at h3
   obtain ⟨⟨h4,h5⟩,h6⟩:=h3
   have h5:=Nat.le_of_ble_eq_true h5
   split at h6
   ·rename_i o' ho'
    rw [List.any_eq_true] at h6
    obtain ⟨e,he,hb⟩:=h6
    simp only [Bool.and_eq_true] at hb
    have hon:=Nat.eq_of_beq_eq_true hb.2
    have hq' : (∀ e∈o'.after,Region.binds .any e=true→listed[e.on]?=some true):=by
     rcases Nat.lt_or_ge q m with h7 | h7
     ·exact hcl q o' ho' (ih q (by omega) h7)
     ·have hqm : q=m:=by omega
      subst hqm
      rcases hm with rfl | hm
      ·rw [ho] at ho'; cases ho'; exact hrd
      ·exact hcl _ o' ho' hm
    rw [← hon]; exact hq' e (Array.mem_toList_iff.1 he) hb.1
   ·cases h6
 exact fun j hj=>key m j (by omega) hj
theorem shut_set {ops:List Oper}{listed:Array Bool}(hcl:Shut ops listed) (hs:listed.size=ops.length){i:Nat}{o:Oper}(ho:ops[i]?=some o) (hrd:∀ e∈o.after,Region.binds .any e=true→listed[e.on]?=some true) : Shut ops (listed.setIfInBounds i true):=by
 have hset : ∀ (j:Nat),listed[j]?=some true→(listed.setIfInBounds i true)[j]?=some true:=by
  intro j hj
  by_cases e : i=j
  ·subst e; rw [Array.getElem?_setIfInBounds_self_of_lt (Array.getElem?_eq_some_iff.1 hj).1]
  ·rw [Array.getElem?_setIfInBounds_ne e]; exact hj
 intro j o' ho' hj e he hb
 by_cases e1 : i=j
 ·subst e1
  rw [ho] at ho'; cases ho'
  exact hset _ (hrd e he hb)
 ·rw [Array.getElem?_setIfInBounds_ne e1] at hj
  exact hset _ (hcl j o' ho' hj e he hb)

section
variable {P:Program} {N:Ev} {Q:Post} {l:Fr} {w:World}
theorem ready_tail2 {ops:List Oper}{m:Nat}(hch:Consec m ops) (hback:∀ (i:Nat) (o:Oper),ops[i]?=some o→∀ e∈o.after,Region.binds .any e=true→e.on < i){listed:Array Bool}(hs:listed.size=ops.length){k:Nat}(hk:m≤k)
  (hl:∀ j,j < ops.length→listed[j]?=some (decide (j < k))) : Region.ready .any ops.toArray listed=if k < ops.length then [k] else []:=by
 have hmem : ∀ i,i∈Region.ready .any ops.toArray listed↔i < ops.length∧i=k:=by
  intro i
  simp only [Region.ready,List.mem_filter,List.mem_range,List.size_toArray]
  constructor
  ·rintro ⟨hi,h⟩
   refine ⟨hi,?_⟩
   rw [Bool.and_eq_true] at h
   obtain ⟨h1,h2⟩:=h
   have ho0 : ops[i]?=some (ops[i]'hi):=List.getElem?_eq_getElem hi
   have ho : ops.toArray[i]?=some (ops[i]'hi):=by simp
   have hik : ¬ i < k:=by
    intro hik
    simp [Array.getD_eq_getD_getElem?,hl i hi,hik] at h1
   rcases Nat.lt_or_ge k i with h3 | h3
   ·exfalso
    obtain ⟨e,he,hb,hon⟩:=hch i _ (by omega) ho0
    simp only [ho,Option.map_some,Option.getD_some,Array.all_eq_true'] at h2
    have:=h2 e he
    have hkl : i - 1 < ops.length:=by omega
    have hnk : ¬ i - 1 < k:=by omega
    simp [hb,hon,Array.getD_eq_getD_getElem?,hl (i - 1) hkl] at this
    omega
   ·omega
  ·rintro ⟨hi,rfl⟩
   refine ⟨hi,?_⟩
   have ho0 : ops[i]?=some (ops[i]'hi):=List.getElem?_eq_getElem hi
   have ho : ops.toArray[i]?=some (ops[i]'hi):=by simp
   rw [Bool.and_eq_true]
   refine ⟨by simp [Array.getD_eq_getD_getElem?,hl i hi],?_⟩
   simp only [ho,Option.map_some,Option.getD_some,Array.all_eq_true']
   intro e he
   by_cases hb : Region.binds .any e=true
   ·have hlt:=hback i _ ho0 e he hb
    simp [hb,Array.getD_eq_getD_getElem?,hl e.on (by omega),hlt]
   ·simp [hb]
 have hnd : (Region.ready .any ops.toArray listed).Nodup:=by
  unfold Region.ready
  exact List.Pairwise.filter _ List.nodup_range
 generalize Region.ready .any ops.toArray listed=r at hmem hnd
 match r,hmem,hnd with
 | [],hmem,_ =>
  by_cases h : k < ops.length
  ·have:=(hmem k).2 ⟨h,rfl⟩; cases this
  ·rw [if_neg h]
 | [x],hmem,_ =>
  have:=(hmem x).1 (by simp)
  obtain ⟨h1,rfl⟩:=this
  rw [if_pos h1]
 | x::y::r,hmem,hnd =>
  have h1:=(hmem x).1 (by simp)
  have h2:=(hmem y).1 (by simp)
  have hxy : x=y:=by omega
  subst hxy
  simp at hnd

theorem tail_any2 {ops:List Oper}{m:Nat}(hch:Consec m ops) (hback:∀ (i:Nat) (o:Oper),ops[i]?=some o→∀ e∈o.after,Region.binds .any e=true→e.on < i) :
  ∀ (fuel k:Nat) (listed:Array Bool) (a:Act) (W:World),m≤k→k+fuel ≥ ops.length→k≤ops.length→listed.size=ops.length→(∀ j,j < ops.length→listed[j]?=some (decide (j < k))) →
   wpListIn (FW N.ro) 0 P ops.toArray (up N Q) (ops.drop k) a W→wpAnyIn (FW N.ro) 0 P .any ops.toArray (up N Q) fuel listed a W:=by
 intro fuel
 induction fuel with
 | zero =>
  intro k listed a W hmk hkf hkl hs hl h
  have hk : k=ops.length:=by omega
  subst hk
  rw [List.drop_length] at h
  refine ⟨?_,h⟩
  rw [ready_tail2 hch hback hs hmk hl,if_neg (by omega)]
 | succ fuel ih =>
  intro k listed a W hmk hkf hkl hs hl h
  by_cases hk : k < ops.length
  ·refine ⟨fun hr=>?_,?_⟩
   ·rw [ready_tail2 hch hback hs hmk hl,if_pos hk] at hr; cases hr
   ·intro i hi
    rw [ready_tail2 hch hback hs hmk hl,if_pos hk] at hi
    simp only [List.mem_singleton] at hi
    subst hi
    rw [List.drop_eq_getElem_cons hk] at h
    have ho : ops.toArray[i]?=some (ops[i]'hk):=by simp [List.getElem?_eq_getElem hk]
    have hl' : ∀ j,j < ops.length→(listed.setIfInBounds i true)[j]?=some (decide (j < i+1)):=by
     intro j hj
     by_cases e : i=j
     ·subst e
      rw [Array.getElem?_setIfInBounds_self_of_lt (by omega)]; simp
     ·rw [Array.getElem?_setIfInBounds_ne e,hl j hj]
      congr 1
      by_cases h1 : j < i
      ·simp [h1]; omega
      ·simp [h1]; omega
    have hnext : ∀ a' W',wpListIn (FW N.ro) 0 P ops.toArray (up N Q) (ops.drop (i+1)) a' W'→wpAnyIn (FW N.ro) 0 P .any ops.toArray (up N Q) fuel (listed.setIfInBounds i true) a' W' :=
     fun a' W' h'=>ih (i+1) _ a' W' (by omega) (by omega) (by omega) (by simp [hs]) hl' h'
    unfold wpOpIn
    rw [ho]
    simp only []
    unfold wpListIn at h
    split
    ·rename_i hw
     rw [if_pos hw] at h
     exact Oper.wpIn_mono hnext h
    ·rename_i hw
     rw [if_neg hw] at h
     exact ⟨h.1,hnext _ _ h.2⟩
  ·have hk' : k=ops.length:=by omega
   subst hk'
   rw [List.drop_length] at h
   refine ⟨fun _=>h,?_⟩
   intro i hi
   rw [ready_tail2 hch hback hs hmk hl,if_neg hk] at hi
   cases hi

theorem draw_tail2 {S:World→World→Prop}(hS:SR S){ops:List Oper}{m:Nat}(hm:m≤ops.length){Φ:List VP}{dep:List (List Nat)}{lb:Fr}(hok:zCO N.n (ops.take m) dep lb=true) (hch:Consec m ops){nx:List Nat}(hnx:nextOk m ops nx=true) (hback:∀ (i:Nat) (o:Oper),ops[i]?=some o→∀ e∈o.after,Region.binds .any e=true→e.on < i)
  (hΦ:Φ.length=m) (hmono:Monos S Φ) (hob:Obs P N S (ops.take m) Φ Q lb w (ops.take m) Φ dep)
  (hfin:∀ a W listed,Mid N S (ops.take m) Φ lb w listed a W→(∀ i,i < m→listed[i]?=some true)→wpListIn (FW N.ro) 0 P ops.toArray (up N Q) (ops.drop m) a W) :
  ∀ (fuel:Nat) (listed:Array Bool) (a:Act) (W:World),Mid N S (ops.take m) Φ lb w listed a W→listed.size=ops.length→Shut ops listed→(∀ j,m≤j→j < ops.length→listed[j]?=some false)→(listed.toList.filter (! ·)).length≤fuel →
   wpAnyIn (FW N.ro) 0 P .any ops.toArray (up N Q) fuel listed a W:=by
 have hlen : (ops.take m).length=m:=by simp; omega
 have htk : ∀ (k:Nat) (o:Oper),(ops.take m)[k]?=some o→ops.toArray[k]?=some o:=by
  intro k o h
  rw [List.getElem?_take] at h
  split at h
  ·simpa using h
  ·cases h
 intro fuel
 induction fuel with
 | zero =>
  intro listed a W hmid hs hcl hB hf
  have hnil : ∀ i,i < ops.length→listed[i]?=some true:=by
   intro i hi
   have hfl : listed.toList.filter (! ·)=[]:=List.eq_nil_of_length_eq_zero (by omega)
   rw [List.filter_eq_nil_iff] at hfl
   have hlt : i < listed.size:=by omega
   have hm:=hfl listed[i] (by simp)
   rw [Array.getElem?_eq_getElem hlt]
   simpa using hm
  have hmn : m=ops.length:=by
   rcases Nat.lt_or_ge m ops.length with h | h
   ·have h1:=hnil m h
    rw [hB m (Nat.le_refl _) h] at h1; cases h1
   ·omega
  refine tail_any2 hch hback 0 ops.length listed a W (by omega) (by omega) (by omega) hs (fun j hj=>by rw [hnil j hj]; simp [hj]) ?_
  have:=hfin a W listed hmid (fun i hi=>hnil i (by omega))
  rwa [hmn] at this
 | succ fuel ih =>
  intro listed a W hmid hs hcl hB hf
  by_cases hall : ∀ i,i < m→listed[i]?=some true
  ·-- the line begins
   have hl : ∀ j,j < ops.length→listed[j]?=some (decide (j < m)):=by
    intro j hj
    by_cases h : j < m
    ·rw [hall j h]; simp [h]
    ·rw [hB j (by omega) hj]; simp [h]
   have hcnt : ops.length - m≤(listed.toList.filter (! ·)).length:=by
    have e : listed.toList=listed.toList.take m++listed.toList.drop m:=(List.take_append_drop m _).symm
    rw [e,List.filter_append,List.length_append]
    have e2 : (listed.toList.drop m).filter (! ·)=listed.toList.drop m:=by
     rw [List.filter_eq_self]
     intro x hx
     obtain ⟨j,hj,rfl⟩:=List.getElem_of_mem hx
     simp only [List.length_drop,Array.length_toList] at hj
     have:=hB (m+j) (by omega) (by omega)
     rw [Array.getElem?_eq_getElem (by omega)] at this
     simp only [Option.some.injEq] at this
     simp [this]
    rw [e2]; simp; omega
   exact tail_any2 hch hback (fuel+1) m listed a W (Nat.le_refl _) (by omega) hm hs hl (hfin a W listed hmid hall)
  ·refine ⟨fun hr=>?_,?_⟩
   ·-- something of the first part is ready
    exfalso
    apply hall
    intro i
    induction i using Nat.strongRecOn with
    | _ i ihi =>
     intro him
     rcases hli : listed[i]? with _ | b
     ·simp at hli; omega
     ·cases b with
      | true=>rfl
      | false =>
       exfalso
       have hi : i < ops.length:=by omega
       have : i∈Region.ready .any ops.toArray listed:=by
        simp only [Region.ready,List.mem_filter,List.mem_range,List.size_toArray]
        refine ⟨hi,?_⟩
        simp only [Array.getD_eq_getD_getElem?,hli,Option.getD_some,Bool.not_false,Bool.true_and]
        have ho0 : ops[i]?=some (ops[i]'hi):=List.getElem?_eq_getElem hi
        have ho : ops.toArray[i]?=some (ops[i]'hi):=by simp
        simp only [ho,Option.map_some,Option.getD_some,Array.all_eq_true']
        intro e he
        by_cases hb : Region.binds .any e=true
        ·have hlt:=hback i _ ho0 e he hb
         simp only [hb,Bool.not_true,Bool.false_or]
         rw [ihi e.on hlt (by omega)]; rfl
        ·simp [hb]
       rw [hr] at this
       cases this
   ·intro i hi
    simp only [Region.ready,List.mem_filter,List.mem_range,List.size_toArray] at hi
    obtain ⟨hlt,hi⟩:=hi
    rw [Bool.and_eq_true] at hi
    obtain ⟨hun,hrd⟩:=hi
    have ho : ops[i]?=some (ops[i]'hlt):=List.getElem?_eq_getElem hlt
    have ho' : ops.toArray[i]?=some (ops[i]'hlt):=by simp
    have hrd' : ∀ e∈(ops[i]'hlt).after,Region.binds .any e=true→listed[e.on]?=some true:=by
     intro e he hb
     rw [ho'] at hrd
     simp only [Option.map_some,Option.getD_some,Array.all_eq_true'] at hrd
     have:=hrd e he
     simp only [hb,Bool.not_true,Bool.false_or] at this
     rcases hlj : listed[e.on]? with _ | b
     ·simp [Array.getD_eq_getD_getElem?,hlj] at this
     ·simp [Array.getD_eq_getD_getElem?,hlj] at this; rw [this]
    have him : i < m:=by
     rcases Nat.lt_or_ge i m with h | h
     ·exact h
     ·exfalso
      exact hall fun j hj=>next_all hnx hs hcl h ho hrd' hch j hj
    have hun' : listed[i]?=some false:=by
     have hlt' : i < listed.size:=by omega
     rw [Array.getElem?_eq_getElem hlt']
     simp only [Array.getD_eq_getD_getElem?,Array.getElem?_eq_getElem hlt',Option.getD_some] at hun
     simpa using hun
    have hcount : ((listed.setIfInBounds i true).toList.filter (! ·)).length≤fuel:=by
     have hlt' : i < listed.toList.length:=by simp; omega
     have e1 : (listed.setIfInBounds i true).toList=listed.toList.set i true:=by simp
     rw [e1]
     have e2 : listed.toList=listed.toList.take i++false::listed.toList.drop (i+1):=by
      have hg : listed.toList[i]=false:=by
       have:=hun'
       rw [Array.getElem?_eq_getElem (by simpa using hlt')] at this
       simpa using this
      rw [← hg,← List.drop_eq_getElem_cons hlt']; simp
     have e3 : listed.toList.set i true=listed.toList.take i++true::listed.toList.drop (i+1):=by
      rw [List.set_eq_take_append_cons_drop,if_pos hlt']
     rw [e3]
     rw [e2] at hf
     simp only [List.filter_append,List.length_append,List.filter_cons,Bool.not_false,Bool.not_true,if_true,List.length_cons] at hf ⊢
     simp at hf ⊢
     omega
    have hot : (ops.take m)[i]?=some (ops[i]'hlt):=by rw [List.getElem?_take,if_pos him]; exact ho
    refine mid_step hS hok (by rw [hlen]; exact hΦ) hmono hob hmid hot hrd' (fun a' W' hm'=>ih _ a' W' hm' (by simp [hs]) (shut_set hcl hs ho hrd') ?_ hcount) htk
    intro j hj hjl
    rw [Array.getElem?_setIfInBounds_ne (by omega)]
    exact hB j hj hjl

def consecOk (m:Nat) (ops:List Oper) : Bool:=(ops.zipIdx).all fun (o,i)=>Nat.ble i m||o.after.toList.any fun e=>Region.binds .any e&&Nat.beq e.on (i - 1)
theorem consec_of {m:Nat}{ops:List Oper}(h:consecOk m ops=true) : Consec m ops:=by
 intro i o hi ho
 simp only [consecOk,List.all_eq_true] at h
 have:=h (o,i) (by rw [List.mem_zipIdx_iff_getElem?]; simpa using ho)
 simp only [Bool.or_eq_true,List.any_eq_true,Bool.and_eq_true] at this
 rcases this with h1 | ⟨e,he,hb,hon⟩
 ·have:=Nat.le_of_ble_eq_true h1; omega
 ·exact ⟨e,Array.mem_toList_iff.1 he,hb,Nat.eq_of_beq_eq_true hon⟩
theorem wc_draw_tail2 {id:Nat}{ops:List Oper}(m:Nat) (nx:List Nat) (hm:P.follows .mixedOrders=true) (lb:Fr) (hlb:Sub lb l) (Φ:List VP) (dep:List (List Nat)) (live:List Nat)
  (hml:Nat.ble m ops.length=true) (hok:zCO N.n (ops.take m) dep lb=true) (hch:consecOk m ops=true) (hnx:nextOk m ops nx=true) (hback:backOk ops=true) (hΦ:Nat.beq Φ.length m=true) (hlive:(live.all fun i=>Nat.blt i m)=true) (hmono:Monos (fun w W=>Below w.heap.size w W) Φ) (hob:Obs P N (fun w W=>Below w.heap.size w W) (ops.take m) Φ Q lb w (ops.take m) Φ dep)
  (hfin:∀ W,Below w.heap.size w W→zBp (depAt (ops.take m) Φ live) lb W fun l'=>WL P N ops.toArray Q (ops.drop m) l' W) : WC P N (.region id ops.toArray true) Q l w:=by
 intro a ha hg
 refine wpIn_region_any hm ?_
 have hΦ':=Nat.eq_of_beq_eq_true hΦ
 have hml':=Nat.le_of_ble_eq_true hml
 refine draw_tail2 zBt (w:={ w with drawn:=w.drawn+1 }) hml' hok (consec_of hch) hnx (back_of hback) hΦ' hmono (hob.drawn zBt) ?_ _ _ _ _ ?_ (by simp) ?_ ?_ ?_
 ·intro a' W listed hmid hall
  obtain ⟨l',hl',h⟩:=zBp.use (hfin W (zBt.drawn _ _ hmid.below)) hmid.base (live_told hmid (m:=m) (by simp; omega) (by omega) hlive hall)
  exact h a' hl' hmid.good
 ·refine ⟨zBt.refl _,ha.sub hlb,hg.step rfl (fun _ _ h _ _=>h) (Nat.le_refl _),?_⟩
  intro i o φ _ _ hi
  simp [Array.getElem?_replicate] at hi
 ·intro i o _ hi
  simp [Array.getElem?_replicate] at hi
 ·intro j hj hjl
  simp [Array.getElem?_replicate,hjl]
 ·simp
end
section
variable {P:Program} {N:Ev} {X:Cx} {Q:zBa} {st:AS}
theorem zB0 {id:Nat}{ops:List Oper}(q:Nat) (nx:List Nat) (hm:P.follows .mixedOrders=true) (ks:List Nat) (Ts:List TT) (dep:List (List Nat)) (live:List Nat) (hks:(ks.all fun t=>(st.l.look t).isSome)=true) (hq:Nat.ble q ops.length=true) (hok:drawOkK N.n (ops.take q) dep ks=true) (hch:(consecOk q ops&&nextOk q ops nx)=true) (hback:backOk ops=true) (hTs:Nat.beq Ts.length q=true) (hlv:(live.all fun i=>Nat.blt i q)=true) (hdp:depsOk (ops.take q) (live::dep)=true)
  (hob:AObs P N X (ops.take q) Ts (zBJ st.l ks) st.H st.n (ops.take q) Ts dep) (hall:∀ j∈live,(zBL Ts j).1=true) (k:AWL P N X ops.toArray Q (ops.drop q) ⟨zBR (ops.take q) Ts live (zBJ st.l ks),st.H,st.n⟩) : AWC P N X (.region id ops.toArray true) Q st:=by
 intro fr w m ρ φ hc
 obtain ⟨lb,h1,h2,h3⟩:=zC2 hc hks
 have hq':=Nat.le_of_ble_eq_true hq
 have hl : Ts.length=(ops.take q).length:=by rw [Nat.eq_of_beq_eq_true hTs,List.length_take]; omega
 simp only [depsOk,List.all_cons,Bool.and_eq_true] at hdp
 rw [Bool.and_eq_true] at hch
 refine wc_draw_tail2 q nx hm lb h2 (Ts.map (phi X.e m ρ (φ.flatten++X.F))) dep live hq (draw_keys (by rw [h1]; exact hok)) hch.1 hch.2 hback (by rw [List.length_map]; exact hTs) hlv (monos_phi Ts) (obs_of hl h3 hdp.2 hob) ?_
 intro W hW
 refine zC3 (phi_at hl) hdp.1 fun l' hl'=>?_
 obtain ⟨m',h4,h5⟩:=conc_df hl' (Mem.le_refl _) (h3.grow (Mem.le_refl _) (h3.sh.ext hW)) hall
 exact k _ _ _ _ _ h5

variable {d:Nat} {T U T':TypeId} {pos:String} {aft:Array Edge} {g:Option (Nat×Bool)} {x y:Operand}
end
end Go.Ab
namespace Go.Ab
open Go.RowKit Go.Shelf Go.Proofs Go.Eng

theorem nodup_ne {α:Type}{l:List α}(h:l.Nodup){i j:Nat}(hij:i < j) (hj:j < l.length) : l[i]?≠l[j]?:=by
 rw [List.getElem?_eq_getElem (by omega),List.getElem?_eq_getElem hj]
 have:=List.pairwise_iff_getElem.1 h i j (by omega) hj hij
 simpa using this
theorem nodup_of_ne {α:Type}{l:List α}(h:∀ i j,i < j→j < l.length→l[i]?≠l[j]?) : l.Nodup:=by
 refine List.pairwise_iff_getElem.2 fun i j hi hj hij=>?_
 have:=h i j hij hj
 rw [List.getElem?_eq_getElem hi,List.getElem?_eq_getElem hj] at this
 simpa using this
theorem flatMap_eq {α β:Type}{l:List α}{f g:α→List β}(h:∀ a∈l,f a=g a) : l.flatMap f=l.flatMap g:=by
 induction l with
 | nil=>rfl
 | cons a l ih=>rw [List.flatMap_cons,List.flatMap_cons,h a (by simp),ih (fun b hb=>h b (by simp [hb]))]
def updH : Nat→List Nat→List AO→AH→AH
 | _,[],_,H=>H
 | _,_,[],H=>H
 | k,i::σ,o::os,H=>(i,o)::updH k σ os H
def zCD : Nat→Nat→List Nat
 | _,0=>[]
 | n,k+1=>n::zCD (n+1) k
theorem fromN_get : ∀ {k n i:Nat},i < k→(zCD n k)[i]?=some (n+i):=by
 intro k
 induction k with
 | zero=>intro n i h; omega
 | succ k ih =>
  intro n i h
  cases i with
  | zero=>simp [zCD]
  | succ i=>simp only [zCD,List.getElem?_cons_succ]; rw [ih (by omega)]; congr 1; omega
theorem fromN_len : ∀ {k n:Nat},(zCD n k).length=k:=by
 intro k
 induction k with
 | zero=>intro n; rfl
 | succ k ih=>intro n; simp [zCD,ih]
theorem updH_get : ∀ {σ:List Nat}{os:List AO}{H:AH}{k:Nat},σ.Nodup→os.length=σ.length→(∀ (j i:Nat) (o:AO),σ[j]?=some i→os[j]?=some o→AH.get (updH k σ os H) i=o)∧(∀ i,i∉σ→AH.get (updH k σ os H) i=AH.get H i):=by
 intro σ
 induction σ with
 | nil=>intro os H k _ _; exact ⟨fun j i o h=>by simp at h,fun i _=>rfl⟩
 | cons a σ ih =>
  intro os H k hn hl
  cases os with
  | nil=>simp at hl
  | cons o os =>
   rw [List.nodup_cons] at hn
   obtain ⟨h1,h2⟩:=ih (H:=H) (k:=k) hn.2 (by simpa using hl)
   refine ⟨fun j i q hj hq=>?_,fun i hi=>?_⟩
   ·simp only [updH,AH.get_cons]
    cases j with
    | zero=>simp at hj hq; subst hj hq; simp
    | succ j =>
     have hj' : σ[j]?=some i:=by simpa using hj
     rw [if_neg (by intro e; rw [e] at hn; exact hn.1 (List.mem_of_getElem? hj'))]
     exact h1 j i q hj' (by simpa using hq)
   ·simp only [List.mem_cons,not_or] at hi
    simp only [updH,AH.get_cons]
    rw [if_neg (fun e=>hi.1 e.symm)]
    exact h2 i hi.2

section
variable {P:Program} {N:Ev} {X:Cx} {Q:zBa} {st:AS}
variable {d:Nat} {T U T':TypeId} {pos:String} {aft:Array Edge} {g:Option (Nat×Bool)} {x y:Operand}

theorem conc_call {fr:Fr}{w w':World}{m m':Mem}{ρ ρ1':List Value}{φ φ1':List Frag}{σ:List Nat}{H':List AO}{v:Value}{av:AV}(hc:Conc X st fr w m ρ φ) (hnd:σ.Nodup) (hlt:∀ i∈σ,i < st.n) (hm:m.le m') (hk:σ.length≤H'.length)
  (hpre:∀ (i j:Nat) (h:Value),σ[i]?=some j→ρ[j]?=some h→ρ1'[i]?=some h) (ho:zCl m' ρ1' H' φ1')
  (hs:SH X.e w' m' (φ1'.flatten++(((List.range st.n).filter fun i=>!σ.contains i).flatMap (fun i=>φ.getD i [])++X.F)))
  (hav:∀ ρ',(∀ (i:Nat) (u:Value),ρ1'[i]?=some u→∃ j,(σ++zCD st.n (H'.length - σ.length))[i]?=some j∧ρ'[j]?=some u)→RepA m' ρ' av v) :
  ∃ ρ' φ',Conc X ⟨(d,av)::st.l,updH 0 (σ++zCD st.n (H'.length - σ.length)) (H'.map (AO.ren (σ++zCD st.n (H'.length - σ.length)))) st.H,st.n+(H'.length - σ.length)⟩ ((d,v)::fr) w' m' ρ' φ':=by
 obtain ⟨τ,hτ⟩ : ∃ τ,τ=σ++zCD st.n (H'.length - σ.length):=⟨_,rfl⟩
 have hτl : τ.length=H'.length:=by rw [hτ,List.length_append,fromN_len]; omega
 have hfr : ∀ i,i∈zCD st.n (H'.length - σ.length)↔st.n≤i∧i < st.n+(H'.length - σ.length):=by
  intro i
  rw [List.mem_iff_getElem?]
  constructor
  ·rintro ⟨j,hj⟩
   have hjl:=(List.getElem?_eq_some_iff.1 hj).1
   rw [fromN_len] at hjl
   rw [fromN_get hjl] at hj
   cases hj; omega
  ·rintro ⟨h1,h2⟩
   exact ⟨i - st.n,by rw [fromN_get (by omega)]; congr 1; omega⟩
 have hfnd : (zCD st.n (H'.length - σ.length)).Nodup:=by
  refine nodup_of_ne fun i j hij hjl=>?_
  rw [fromN_len] at hjl
  rw [fromN_get (by omega),fromN_get hjl]
  intro e; simp at e; omega
 have hτn : τ.Nodup:=by
  rw [hτ,List.nodup_append]
  refine ⟨hnd,hfnd,fun a ha b hb e=>?_⟩
  subst e
  have:=hlt a ha
  have:=((hfr a).1 hb).1
  omega
 have hτlt : ∀ i∈τ,i < st.n+(H'.length - σ.length):=by
  intro i hi
  rw [hτ,List.mem_append] at hi
  rcases hi with hi | hi
  ·have:=hlt i hi; omega
  ·exact ((hfr i).1 hi).2
 -- the handles, the fragments
 let pos : Nat→Option Nat:=posN τ
 let ρ' : List Value:=(List.range (st.n+(H'.length - σ.length))).map fun i=>match posN τ i with
  | some j=>ρ1'.getD j undef
  | none=>ρ.getD i undef
 let φ' : List Frag:=(List.range (st.n+(H'.length - σ.length))).map fun i=>match posN τ i with
  | some j=>φ1'.getD j []
  | none=>φ.getD i []
 have posτ : ∀ {j i:Nat},τ[j]?=some i→posN τ i=some j:=by
  intro j i hj
  cases hp : posN τ i with
  | none=>exact absurd (List.mem_of_getElem? hj) (posN_none hp)
  | some q =>
   have h1:=posN_get hp
   by_cases e : q=j
   ·rw [e]
   ·exfalso
    rcases Nat.lt_or_ge q j with h | h
    ·exact nodup_ne hτn h (List.getElem?_eq_some_iff.1 hj).1 (by rw [h1,hj])
    ·exact nodup_ne hτn (show j < q by omega) (List.getElem?_eq_some_iff.1 h1).1 (by rw [h1,hj])
 have hρτ : ∀ {j i:Nat} {u:Value},τ[j]?=some i→ρ1'[j]?=some u→ρ'[i]?=some u:=by
  intro j i u hj hu
  simp only [ρ',List.getElem?_map,List.getElem?_range (hτlt i (List.mem_of_getElem? hj)),Option.map_some,posτ hj,List.getD_eq_getElem?_getD,hu,Option.getD_some]
 have hρold : ∀ (i:Nat) (h:Value),ρ[i]?=some h→ρ'[i]?=some h:=by
  intro i h hi
  have hil : i < st.n:=by rw [← hc.nρ]; exact (List.getElem?_eq_some_iff.1 hi).1
  simp only [ρ',List.getElem?_map,List.getElem?_range (show i < st.n+(H'.length - σ.length) by omega),Option.map_some]
  cases hp : posN τ i with
  | none=>simp [List.getD_eq_getElem?_getD,hi]
  | some j =>
   have h1:=posN_get hp
   have hjσ : j < σ.length:=by
    rcases Nat.lt_or_ge j σ.length with h2 | h2
    ·exact h2
    ·exfalso
     rw [hτ,List.getElem?_append_right h2] at h1
     have:=((hfr i).1 (List.mem_of_getElem? h1)).1
     omega
   rw [hτ,List.getElem?_append_left hjσ] at h1
   have:=hpre j i h h1 hi
   simp [List.getD_eq_getElem?_getD,this]
 have hbwd : ∀ (i:Nat) (u:Value),ρ1'[i]?=some u→∃ j,τ[i]?=some j∧ρ'[j]?=some u:=by
  intro i u hi
  have hil : i < τ.length:=by rw [hτl,← ho.nρ]; exact (List.getElem?_eq_some_iff.1 hi).1
  exact ⟨τ[i],List.getElem?_eq_getElem hil,hρτ (List.getElem?_eq_getElem hil) hi⟩
 refine ⟨ρ',φ',hc.mle.trans hm,fun i h hi=>hρold i h (hc.pre i h hi),by simp [ρ'],by simp [φ'],?_,?_,?_⟩
 ·intro t b hb
  simp only [AFr.look_cons] at hb
  rw [Fr.look_cons]
  split
  ·rename_i e; rw [if_pos e] at hb; cases hb; exact ⟨v,rfl,hav ρ' (by rw [← hτ]; exact hbwd)⟩
  ·rename_i e; rw [if_neg e] at hb
   obtain ⟨u,h1,h2⟩:=hc.slots t b hb
   exact ⟨u,h1,RepA.mono hm hρold b h2⟩
 ·intro i h f hi hf
  rw [← hτ]
  have hil : i < st.n+(H'.length - σ.length):=by
   have:=(List.getElem?_eq_some_iff.1 hi).1
   simpa [ρ'] using this
  obtain ⟨g1,g2⟩:=updH_get (σ:=τ) (os:=H'.map (AO.ren τ)) (H:=st.H) (k:=0) hτn (by simp [hτl])
  simp only [ρ',List.getElem?_map,List.getElem?_range hil,Option.map_some,Option.some.injEq] at hi
  simp only [φ',List.getElem?_map,List.getElem?_range hil,Option.map_some,Option.some.injEq] at hf
  cases hp : posN τ i with
  | some j =>
   rw [hp] at hi hf
   simp only at hi hf
   have h1:=posN_get hp
   have hjl : j < H'.length:=by rw [← hτl]; exact (List.getElem?_eq_some_iff.1 h1).1
   have hH : H'[j]?=some (H'[j]'hjl):=List.getElem?_eq_getElem hjl
   have h2 : ρ1'[j]?=some h:=by
    have : ρ1'[j]?=some (ρ1'[j]'(by rw [ho.nρ]; exact hjl)):=List.getElem?_eq_getElem _
    rw [List.getD_eq_getElem?_getD,this] at hi
    rw [this]; simpa using hi
   have h3 : φ1'[j]?=some f:=by
    have : φ1'[j]?=some (φ1'[j]'(by rw [ho.nφ]; exact hjl)):=List.getElem?_eq_getElem _
    rw [List.getD_eq_getElem?_getD,this] at hf
    rw [this]; simpa using hf
   rw [g1 j i _ h1 (by rw [List.getElem?_map,hH]; rfl)]
   exact (ho.at_ j _ h f hH h2 h3).bwd hbwd
  | none =>
   rw [hp] at hi hf
   simp only at hi hf
   have hni:=posN_none hp
   rw [g2 i hni]
   have hin : i < st.n:=by
    rcases Nat.lt_or_ge i st.n with h1 | h1
    ·exact h1
    ·exfalso
     apply hni
     rw [hτ,List.mem_append]
     exact .inr ((hfr i).2 ⟨h1,hil⟩)
   have h2 : ρ[i]?=some h:=by
    have : ρ[i]?=some (ρ[i]'(by rw [hc.nρ]; exact hin)):=List.getElem?_eq_getElem _
    rw [List.getD_eq_getElem?_getD,this] at hi
    rw [this]; simpa using hi
   have h3 : φ[i]?=some f:=by
    have : φ[i]?=some (φ[i]'(by rw [hc.nφ]; exact hin)):=List.getElem?_eq_getElem _
    rw [List.getD_eq_getElem?_getD,this] at hf
    rw [this]; simpa using hf
   exact (hc.objs i h f h2 h3).mono hm hρold
 ·refine hs.perm ?_
  rw [← List.append_assoc]
  refine List.Perm.append_right _ ?_
  have h1 : φ'.flatten=(List.range (st.n+(H'.length - σ.length))).flatMap fun i=>match posN τ i with
    | some j=>φ1'.getD j []
    | none=>φ.getD i []:=by rw [List.flatMap_def]
  rw [h1]
  refine List.Perm.symm (((range_split hτn hτlt).flatMap_right _).trans ?_)
  rw [List.flatMap_append]
  have h2 : (τ.flatMap fun i=>match posN τ i with
    | some j=>φ1'.getD j []
    | none=>φ.getD i [])=φ1'.flatten:=by
   rw [zCT,ho.nφ,← hτl]
   have : τ=(List.range τ.length).map fun j=>τ.getD j 0:=by
    apply List.ext_getElem?
    intro j
    rw [List.getElem?_map]
    rcases Nat.lt_or_ge j τ.length with h | h
    ·rw [List.getElem?_range h,Option.map_some,List.getD_eq_getElem?_getD,List.getElem?_eq_getElem h]; rfl
    ·rw [List.getElem?_eq_none h,List.getElem?_eq_none (by simpa using h)]; rfl
   have this2 : ∀ g : Nat→Frag,τ.flatMap g=((List.range τ.length).map fun j=>τ.getD j 0).flatMap g:=fun g=>by rw [← this]
   rw [this2,List.flatMap_map]
   refine flatMap_eq fun j hj=>?_
   rw [List.mem_range] at hj
   have h3 : τ[j]?=some (τ.getD j 0):=by rw [List.getD_eq_getElem?_getD,List.getElem?_eq_getElem hj]; rfl
   rw [posτ h3]
  rw [h2]
  refine List.Perm.append_left _ ?_
  -- what no name of the call's reaches
  have h4 : ((List.range (st.n+(H'.length - σ.length))).filter fun i=>!τ.contains i)=(List.range st.n).filter fun i=>!σ.contains i:=by
   rw [List.range_add,List.filter_append]
   have h5 : ((List.range (H'.length - σ.length)).map (st.n+·)).filter (fun i=>!τ.contains i)=[]:=by
    rw [List.filter_eq_nil_iff]
    intro a ha
    obtain ⟨q,hq,rfl⟩:=List.mem_map.1 ha
    rw [List.mem_range] at hq
    simp only [List.contains_eq_mem,Bool.not_eq_true',decide_eq_false_iff_not,Decidable.not_not]
    rw [hτ,List.mem_append]
    exact .inr ((hfr _).2 ⟨by omega,by omega⟩)
   rw [h5,List.append_nil]
   refine List.filter_congr fun a ha=>?_
   rw [List.mem_range] at ha
   congr 1
   simp only [List.contains_eq_mem]
   rw [hτ]
   simp only [List.mem_append,decide_eq_decide]
   constructor
   ·rintro (h | h)
    ·exact h
    ·have:=((hfr a).1 h).1; omega
   ·exact .inl
  rw [h4]
  refine List.Perm.of_eq (flatMap_eq fun i hi=>?_)
  simp only [List.mem_filter,List.mem_range,Bool.not_eq_true',List.contains_eq_mem,decide_eq_false_iff_not] at hi
  have : posN τ i=none:=by
   cases hp : posN τ i with
   | none=>rfl
   | some j =>
    have h5:=List.mem_of_getElem? (posN_get hp)
    rw [hτ,List.mem_append] at h5
    rcases h5 with h5 | h5
    ·exact absurd h5 hi.2
    ·have:=((hfr i).1 h5).1; omega
  rw [this]

theorem ret_own {f:FuncId}{as1:List AV}{H1:List AO}{R:List AV→List AO→Prop}{σ:List Nat}{fr:Fr}{w:World}{m:Mem}{ρ:List Value}{φ:List Frag}{vs:List Value}(hr:RunsM X.m P f as1 H1 R) (hc:Conc X st fr w m ρ φ) (hσ:(zCn σ&&σ.all fun i=>Nat.blt i st.n)=true) (hH:σ.map st.H.get=H1.map (AO.ren σ)) (hv:RepL m ρ (renL σ as1) vs) :
  Ret P f vs.toArray w fun v w'=>∃ rs H' m' ρ1' φ1',R rs H'∧m.le m'∧σ.length≤H'.length∧(∀ (i j:Nat) (h:Value),σ[i]?=some j→ρ[j]?=some h→ρ1'[i]?=some h)∧zCl m' ρ1' H' φ1' ∧
   SH X.e w' m' (φ1'.flatten++(((List.range st.n).filter fun i=>!σ.contains i).flatMap (fun i=>φ.getD i [])++X.F))∧∃ us,RepL m' ρ1' rs us∧v=zBg us:=by
 rw [Bool.and_eq_true] at hσ
 have hnd:=zCS hσ.1
 have hlt : ∀ i∈σ,i < st.n:=by
  intro i hi
  have:=hσ.2
  rw [List.all_eq_true] at this
  simpa using this i hi
 have hlen : σ.length=H1.length:=by simpa using congrArg List.length hH
 let ρ1 : List Value:=σ.map fun i=>ρ.getD i undef
 let φ1 : List Frag:=σ.map fun i=>φ.getD i []
 have hfwd : ∀ (i j:Nat) (u:Value),σ[i]?=some j→ρ[j]?=some u→ρ1[i]?=some u:=by
  intro i j u hi hj
  simp only [ρ1,List.getElem?_map,hi,Option.map_some,List.getD_eq_getElem?_getD,hj,Option.getD_some]
 have hsh : SH X.e w m (φ1.flatten++(((List.range st.n).filter fun i=>!σ.contains i).flatMap (fun i=>φ.getD i [])++X.F)):=by
  refine hc.sh.perm ?_
  rw [← List.append_assoc]
  refine List.Perm.append_right _ ?_
  rw [zCT,hc.nφ]
  refine ((range_split hnd hlt).flatMap_right _).trans ?_
  rw [List.flatMap_append]
  refine List.Perm.of_eq ?_
  show _=φ1.flatten++_
  rw [show φ1.flatten=σ.flatMap fun i=>φ.getD i [] from flatMap_getD φ σ]
 have hos : zCl m ρ1 H1 φ1:=by
  refine ⟨by simp [ρ1,hlen],by simp [φ1,hlen],fun i o h f hi hh hf=>?_⟩
  have hil : i < σ.length:=by rw [hlen]; exact (List.getElem?_eq_some_iff.1 hi).1
  have hσi : σ[i]?=some (σ[i]'hil):=List.getElem?_eq_getElem hil
  have hn:=hlt _ (List.getElem_mem hil)
  have e1:=congrArg (fun l=>l[i]?) hH
  simp only [List.getElem?_map,hσi,hi,Option.map_some,Option.some.injEq] at e1
  have hρi : ρ[σ[i]'hil]?=some (ρ[σ[i]'hil]'(by rw [hc.nρ]; exact hn)):=List.getElem?_eq_getElem _
  have hφi : φ[σ[i]'hil]?=some (φ[σ[i]'hil]'(by rw [hc.nφ]; exact hn)):=List.getElem?_eq_getElem _
  have h1:=hc.objs _ _ _ hρi hφi
  rw [e1] at h1
  have h2:=h1.fwd hfwd
  have eh : h=ρ[σ[i]'hil]'(by rw [hc.nρ]; exact hn):=by
   have:=hfwd i _ _ hσi hρi
   rw [this] at hh; exact (Option.some.inj hh).symm
  have ef : f=φ[σ[i]'hil]'(by rw [hc.nφ]; exact hn):=by
   simp only [φ1,List.getElem?_map,hσi,Option.map_some,List.getD_eq_getElem?_getD,hφi,Option.getD_some,Option.some.injEq] at hf
   exact hf.symm
  rw [eh,ef]; exact h2
 refine Ret.mono (hr X.e w m ρ1 φ1 _ vs hc.mle (zB3 hfwd as1 hv) hos hsh) ?_
 rintro v w' ⟨rs,H',m',ρ1',φ1',h1,h2,h3,h4,h5,h6,h7⟩
 exact ⟨rs,H',m',ρ1',φ1',h1,h2,by rw [hlen]; exact h4,fun i j h hi hj=>h3 i h (hfwd i j h hi hj),h5,h6,h7⟩

theorem zAP {f:FuncId}{xs:List Operand}{as1 as' rs:List AV}{H1 H':List AO}{σ:List Nat}{ts:Array TypeId}{K:AS→Prop}{r:AV}(hr:RunsM X.m P f as1 H1 fun q Hq=>q=rs∧Hq=H') (hf:Enters P f) (hx:xs.map (aev st.l)=as'.map some) (hcv:cvL (renL σ as1) as') (hσ:(zCn σ&&σ.all fun i=>Nat.blt i st.n)=true) (hH:σ.map st.H.get=H1.map (AO.ren σ))
  (hrs:tupA (renL (σ++zCD st.n (H'.length - σ.length)) rs)=r) (k:K ⟨(d,r)::st.l,updH 0 (σ++zCD st.n (H'.length - σ.length)) (H'.map (AO.ren (σ++zCD st.n (H'.length - σ.length)))) st.H,st.n+(H'.length - σ.length)⟩) (hN:Nat.blt d N.n=true:=by rfl) :
  AOp P N X ⟨some d,.call ⟨.value (.func f),xs.toArray,ts⟩,U,pos,aft,g⟩ K st :=
 zBH fun Q fr w m ρ φ hc K' hK=>by
  obtain ⟨vs,h1,h2⟩:=hc.evl hx
  have hσ':=hσ
  rw [Bool.and_eq_true] at hσ'
  refine zDf hf h1 (ret_own hr hc hσ hH (cvL_rep hcv h2)) hN ?_
  rintro v w' ⟨rs',H'',m',ρ1',φ1',⟨rfl,rfl⟩,g1,g2,g3,g4,g5,us,g6,rfl⟩
  subst hrs
  obtain ⟨ρ',φ',hcc⟩:=conc_call (d:=d) (av:=tupA (renL (σ++zCD st.n (H''.length - σ.length)) rs')) (v:=zBg us) hc (zCS hσ'.1) (fun i hi=>by have:=hσ'.2; rw [List.all_eq_true] at this; simpa using this i hi) g1 g2 g3 g4 g5 (fun ρ' hb=>zBM (zCH hb _ g6))
  exact hK _ _ _ _ _ _ hcc k
end

theorem zAe {P:Program}{X:Cx}{rs:List ResultVar}{k n:Nat}{st:AS}{as' r:List AV}{l':AFr}{Hs:AH}{H':List AO}(h:Wk X st ⟨l',Hs,n⟩) (hr:as'=r) (hH:(List.range n).map (AH.get Hs)=H') (hk:Nat.ble k n=true) (ho:AOuts P l' rs as') : retW P X rs k (fun q Hq=>q=r∧Hq=H') .ret st :=
 ⟨⟨l',Hs,n⟩,h,as',_,ho,hH,hk,hr,rfl⟩
end Go.Ab
namespace Go.Ab
open Go.RowKit Go.Shelf Go.Proofs Go.Eng

theorem SlRep.noctl {m:Mem}{T:TypeId}{t:Ty}{x:List t.den}{h:Value}{f:Frag}(H:SlRep m T t x h f) : ∀ q∈f,ctl q.2=false:=by
 obtain ⟨_,⟨_,_,rfl⟩ | ⟨b,c,cs,vs,_,rfl,_⟩⟩:=H
 ·intro q hq; cases hq
 ·intro q hq; rw [List.mem_singleton.1 hq]; rfl
theorem RowsO.noctl {m:Mem}{T:TypeId}{t:Ty}{x:List (List t.den)}{rs:List Value}{fs:List Frag}(H:RowsO m T t x rs fs) : ∀ q∈fs.flatten,ctl q.2=false:=by
 obtain ⟨_,l2,l3⟩:=H.at
 intro q hq
 obtain ⟨f,hf,hqf⟩:=List.mem_flatten.1 hq
 obtain ⟨i,hi,rfl⟩:=List.getElem_of_mem hf
 obtain ⟨r,g,_,h2,h3⟩:=l3 i _ (List.getElem?_eq_getElem (by omega))
 rw [List.getElem?_eq_getElem hi] at h2; cases h2
 exact h3.noctl q hqf
theorem OR.noctl {m:Mem} : ∀ {o:OT}{x:o.den}{cs:List Value}{f:Frag},OR m o x cs f→∀ q∈f,ctl q.2=false:=by
 intro o
 induction o with
 | dat t=>intro x cs f h q hq; rw [h.2] at hq; cases hq
 | pair a b iha ihb =>
  intro x cs f h q hq
  obtain ⟨c,d,g,k,_,rfl,h3,h4⟩:=h
  rcases List.mem_append.1 hq with hq | hq
  ·exact iha h3 q hq
  ·exact ihb h4 q hq
 | pt T e ih =>
  intro x cs f h q hq
  obtain ⟨b,us,g,_,rfl,_,h4⟩:=h
  rcases List.mem_cons.1 hq with rfl | hq
  ·rfl
  ·exact ih h4 q hq
 | sl E e ih =>
  intro x cs f h q hq
  obtain ⟨_,⟨_,_,rfl⟩ | ⟨b,c,arr,us,fs,_,rfl,_,_,_,h6,h7,_,h9⟩⟩:=h
  ·cases hq
  ·rcases List.mem_cons.1 hq with rfl | hq
   ·rfl
   ·obtain ⟨g,hg,hqg⟩:=List.mem_flatten.1 hq
    obtain ⟨i,hi,rfl⟩:=List.getElem_of_mem hg
    exact ih (h9 i _ _ _ (List.getElem?_eq_getElem (by omega)) (List.getElem?_eq_getElem (by omega)) (List.getElem?_eq_getElem hi)) q hqg
 | mp k v ih =>
  intro x cs f h q hq
  obtain ⟨x',_,b,es,cl,fs,_,rfl,h3,h4,_,h6⟩:=h
  rcases List.mem_cons.1 hq with rfl | hq
  ·rfl
  ·obtain ⟨g,hg,hqg⟩:=List.mem_flatten.1 hq
   obtain ⟨i,hi,rfl⟩:=List.getElem_of_mem hg
   obtain ⟨_,us,_,b3⟩:=h6 i _ _ _ (List.getElem?_eq_getElem (by omega)) (List.getElem?_eq_getElem (by omega)) (List.getElem?_eq_getElem hi)
   exact ih b3 q hqg
def AO.plain : AO→Bool
 | .guest _=>false
 | _=>true
theorem ORep.noctl {m:Mem}{ρ:List Value}{o:AO}{h:Value}{f:Frag}(H:ORep m ρ o h f) (hp:o.plain=true) : ∀ q∈f,ctl q.2=false:=by
 cases o with
 | dead=>intro q hq; rw [show f=[] from H] at hq; cases hq
 | var T cs=>obtain ⟨b,us,_,rfl,_⟩:=H; intro q hq; rw [List.mem_singleton.1 hq]; rfl
 | sl T t x=>exact SlRep.noctl (x:=x) H
 | slo T T' t x =>
  obtain ⟨rs,fs,f0,b,c,cs,_,rfl,rfl,_,_,_,_,_,h9⟩:=H
  intro q hq
  rcases List.mem_append.1 hq with hq | hq
  ·rw [List.mem_singleton.1 hq]; rfl
  ·exact h9.noctl q hq
 | sloh T T' t x z j =>
  obtain ⟨rs,fs,f0,b,c,cs,r,_,rfl,rfl,_,_,_,_,_,h9,_⟩:=H
  intro q hq
  rcases List.mem_append.1 hq with hq | hq
  ·rw [List.mem_singleton.1 hq]; rfl
  ·exact h9.noctl q hq
 | guest p=>cases hp
 | tr o x =>
  obtain ⟨_,⟨_,_,rfl⟩ | ⟨y,_,h2⟩⟩:=H
  ·intro q hq; cases hq
  ·exact OR.noctl h2
 | bld T E s =>
  obtain ⟨_,b,_,⟨_,p,_,rfl⟩ | ⟨b2,c,cs,rfl,_⟩⟩:=H
  ·intro q hq; rw [List.mem_singleton.1 hq]; rfl
  ·intro q hq
   simp only [List.mem_cons,List.not_mem_nil,or_false] at hq
   rcases hq with rfl | rfl <;> rfl
 | mpt k v x hs =>
  obtain ⟨_,_,x',_,b,es,cl,fs,_,rfl,h3,h4,_,h6⟩:=H
  intro q hq
  rcases List.mem_cons.1 hq with rfl | hq
  ·rfl
  ·obtain ⟨g,hg,hqg⟩:=List.mem_flatten.1 hq
   obtain ⟨i,hi,rfl⟩:=List.getElem_of_mem hg
   obtain ⟨_,h7,h8⟩:=h6 i _ _ _ (List.getElem?_eq_getElem (by omega)) (List.getElem?_eq_getElem (by omega)) (List.getElem?_eq_getElem hi)
   by_cases e : ∃ n,((x'[i]'(by omega)).1,n)∈hs
   ·obtain ⟨n,hn⟩:=e
    rw [(h7 n hn).1] at hqg; cases hqg
   ·exact OR.noctl (h8 fun n hn=>e ⟨n,hn⟩) q hqg
 | map tk tv x=>obtain ⟨_,_,b,es,cl,_,rfl,_⟩:=H; intro q hq; rw [List.mem_singleton.1 hq]; rfl
 | mapr tk tv x left cur j =>
  obtain ⟨x',_,b,es,cl,r,since,c0,seen,_,rfl,_⟩:=H
  intro q hq
  simp only [List.mem_cons,List.not_mem_nil,or_false] at hq
  rcases hq with rfl | rfl <;> rfl
 | mit tk tv left cur =>
  rcases H with ⟨r,since,c0,seen,_,_,_,rfl⟩ | ⟨b,es,cl,r,since,c0,seen,x,_,_,rfl,_⟩ <;> (intro q hq; rw [List.mem_singleton.1 hq]; rfl)
theorem zCl.noctl {m:Mem}{ρ:List Value}{H:List AO}{φ:List Frag}(h:zCl m ρ H φ) (hp:(H.all AO.plain)=true) : ∀ q∈φ.flatten,ctl q.2=false:=by
 intro q hq
 obtain ⟨g,hg,hqg⟩:=List.mem_flatten.1 hq
 obtain ⟨i,hi,rfl⟩:=List.getElem_of_mem hg
 have h1 : i < H.length:=by rw [← h.nφ]; exact hi
 have h2:=h.at_ i _ _ _ (List.getElem?_eq_getElem h1) (List.getElem?_eq_getElem (by rw [h.nρ]; exact h1)) (List.getElem?_eq_getElem hi)
 rw [List.all_eq_true] at hp
 exact h2.noctl (hp _ (List.getElem_mem h1)) q hqg

open Classical in
noncomputable def eWith (e:World) (n:Nat) (C:Nat→Prop) : World:={ e with heap:=((List.range n).map fun k=>if C k then Obj.deferred (some []) else Obj.cells #[] 0 (0,0)).toArray }
theorem inC_eWith {e:World}{n:Nat}{C:Nat→Prop}{k:Nat} : inC (eWith e n C) k↔k < n∧C k:=by
 unfold inC eWith
 simp only [List.getElem?_toArray,List.getElem?_map]
 constructor
 ·rintro ⟨o,h1,h2⟩
  obtain ⟨j,h3,rfl⟩:=Option.map_eq_some_iff.1 h1
  have hk : k < n:=by have:=(List.getElem?_eq_some_iff.1 h3).1; simpa using this
  rw [List.getElem?_range hk] at h3; cases h3
  refine ⟨hk,?_⟩
  by_cases hc : C k
  ·exact hc
  ·rw [if_neg hc] at h2; cases h2
 ·rintro ⟨h1,h2⟩
  exact ⟨_,by rw [List.getElem?_range h1]; rfl,by simp only [if_pos h2]; rfl⟩
theorem eWith_size {e:World}{n:Nat}{C:Nat→Prop} : (eWith e n C).heap.size=n:=by simp [eWith]
theorem SH.at_e {e e' w:World}{m:Mem}{f:Frag}(h:SH e w m f) (h1:e'.os=e.os) (h2:e'.tape=e.tape) (h3:e'.output=e.output) (h4:∀ p∈f,ctl p.2=true→inC e' p.1) (h5:e'.heap.size≤w.heap.size) : SH e' w m f :=
 ⟨h.os.trans h1.symm,h.tape.trans h2.symm,h.output.trans h3.symm,h.fz,h.own,h.nd,h.dis,h4,h.mctl,h5⟩
theorem inC_lt {e:World}{k:Nat}(h:inC e k) : k < e.heap.size:=let ⟨_,h1,_⟩:=h; (Array.getElem?_eq_some_iff.1 h1).1

def RetX (ex:Nat→Prop) (P:Program) (f:FuncId) (args:Array Value) (w:World) (R:Value→World→Prop) : Prop:=Calls P f args w fun e w'=>∃ v,e=.returned v∧(DK ex w w'∧w.heap.size≤w'.heap.size)∧R v w'
theorem retX_of {P:Program}{w:World}{ex:Nat→Prop}(hx:∀ x,ex x→x < w.heap.size){f:FuncId}{fn:Func}{c:Code}{n:Nat}{args:List Value}{R:Value→World→Prop}(hf:P.funcs[f]?=some fn) (hb:fn.body=some c) (hN:fn.ntmps=n) (hle:Nat.ble args.length n=true){rs:List ResultVar}(hr:fn.results=rs.toArray)
  (h:WC P ⟨n,none,w,ex,true⟩ c (retQM P rs w R) (argFr 0 args) w) : RetX ex P f args.toArray w R:=by
 refine (callsIn_wide (n:=0)).1 (callsIn_of_wp_marks (F:=Fence.wide) hf hb trivial ?_)
 have hle' : args.length≤n:=by simpa using hle
 refine wpIn_mono (h _ (args_hold (by rw [hN]) hle') (good_start hx)) ?_
 have key : ∀ (l':Fr) (a':Act) (w':World),Eng.Holds ⟨n,none,w,ex,true⟩ l' a'→Eng.Good ⟨n,none,w,ex,true⟩ a' w' →
   (∀ w2,But [] w.heap.size w' w2→w'.heap.size=w2.heap.size→∃ vs,OutsAt P l' w2 rs vs∧R (zBg vs) w2) →
   LeavesInM Fence.wide 0 P fn a'.tmps (fun e w'=>∃ v,e=.returned v∧(DK ex w w'∧w.heap.size≤w'.heap.size)∧R v w') a'.defers .returning w':=by
  intro l' a' w' hl' g q
  obtain ⟨Ds,e1,_,e3,e4⟩:=g.marks
  rw [e1]
  refine leaves_marks (b:=w.heap.size) e3 (fun D hm=>⟨(e4 D hm).1,(e4 D hm).2.2⟩) fun w2 hB hs hdk=>?_
  obtain ⟨vs,ho,hR⟩:=q w2 hB hs
  refine ⟨_,outs_tmps hl' ho fn hr,_,rfl,⟨?_,by rw [← hs]; exact g.size⟩,hR⟩
  intro k o hk hc hx
  have h1:=g.dk k o hk hc hx
  refine hdk k o ?_ hc (fun h=>h)
  show (w'.heap.extract 0 w.heap.size)[k]?=some o
  have hlt:=(Array.getElem?_eq_some_iff.1 hk).1
  have hgs : w.heap.size≤w'.heap.size:=g.size
  rw [Array.getElem?_extract,if_pos (by omega)]
  simpa using h1
 rintro e a' w' ⟨l',hl',g,q⟩
 cases e with
 | normal=>exact key l' a' w' hl' g q
 | ret=>exact key l' a' w' hl' g q
 | _=>exact q.elim

def RunsX (m0:Mem) (P:Program) (f:FuncId) (args:List AV) (H:List AO) (R:List AV→List AO→Prop) : Prop :=
 ∀ (e w:World) (m:Mem) (ρ:List Value) (φ:List Frag) (F:Frag) (vs:List Value),m0.le m→RepL m ρ args vs→zCl m ρ H φ→SH e w m (φ.flatten++F) →
  RetX (inC e) P f vs.toArray w fun v w'=>∃ rs H' m' ρ' φ',R rs H'∧m.le m'∧(∀ (i:Nat) (h:Value),ρ[i]?=some h→ρ'[i]?=some h)∧H.length≤H'.length∧zCl m' ρ' H' φ'∧SH e w' m' (φ'.flatten++F)∧∃ us,RepL m' ρ' rs us∧v=zBg us
def HX (ex:Nat→Prop) (X:Cx) : Prop:=∀ k,inC X.e k→ex k∨∃ o,(k,o)∈X.F

theorem args_conc {e w:World}{m:Mem}{ρ:List Value}{φ:List Frag}{F:Frag}{vs:List Value}{args:List AV}{H:List AO}(hv:RepL m ρ args vs) (ho:zCl m ρ H φ) (hs:SH e w m (φ.flatten++F)) : Conc ⟨e,m,ρ,F⟩ ⟨argA 0 args,zipH 0 H,H.length⟩ (argFr 0 vs) w m ρ φ:=by
 refine ⟨Mem.le_refl _,fun _ _ h=>h,ho.nρ,ho.nφ,arg_rep hv,?_,hs⟩
 intro i hd f hi hf
 have hil : i < H.length:=by rw [← ho.nρ]; exact (List.getElem?_eq_some_iff.1 hi).1
 have hH : H[i]?=some (H[i]'hil):=List.getElem?_eq_getElem hil
 have:=zipH_get (i:=0) hH
 rw [Nat.zero_add] at this
 show ORep m ρ (AH.get (zipH 0 H) i) hd f
 rw [this]
 exact ho.at_ i _ hd f hH hi hf
theorem outs_conc {P:Program}{X:Cx}{st:AS}{l:Fr}{w w':World}{m m':Mem}{ρ':List Value}{φ':List Frag}{rs:List ResultVar}{k:Nat}{R:List AV→List AO→Prop}(hc:Conc X st l w' m' ρ' φ') (hq:aretQ P rs k R .normal st) :
  ∃ vs,OutsAt P l w' rs vs∧∃ rs' H' m'' ρ'' φ'',R rs' H'∧X.m.le m''∧(∀ (i:Nat) (h:Value),X.ρ[i]?=some h→ρ''[i]?=some h)∧k≤H'.length∧zCl m'' ρ'' H' φ''∧SH X.e w' m'' (φ''.flatten++X.F)∧∃ us,RepL m'' ρ'' rs' us∧zBg vs=zBg us:=by
 obtain ⟨as',H',h1,rfl,hk,hR⟩:=hq
 obtain ⟨us,h2,h3⟩:=aouts hc h1
 refine ⟨us,h2,as',_,m',ρ',φ',hR,hc.mle,hc.pre,?_,⟨?_,?_,?_⟩,hc.sh,us,h3,rfl⟩
 ·simpa using Nat.le_of_ble_eq_true hk
 ·simpa using hc.nρ
 ·simpa using hc.nφ
 ·intro i o hd f hi hh hf
  rw [List.getElem?_map] at hi
  obtain ⟨j,hj,rfl⟩:=Option.map_eq_some_iff.1 hi
  have hil:=(List.getElem?_eq_some_iff.1 hj).1
  rw [List.getElem?_range (by simpa using hil)] at hj
  cases hj
  exact hc.objs i hd f hh hf

theorem SH.but {e w w':World}{m:Mem}{f:Frag}{b:Nat}(h:SH e w m f) (hB:But [] b w w') (hb:e.heap.size≤b) : SH e w' m f :=
 ⟨hB.os.trans h.os,hB.tape.trans h.tape,hB.output.trans h.output,fun x o hx=>hB.same x o (h.fz _ _ hx) (by simp) (.inl (h.mctl _ _ hx)),fun p hp=>hB.same _ _ (h.own p hp) (by simp) (by
  cases hc : ctl p.2 with
  | false=>exact .inl rfl
  | true=>exact .inr (Nat.lt_of_lt_of_le (inC_lt (h.noctl p hp hc)) hb)),h.nd,h.dis,h.noctl,h.mctl,Nat.le_trans h.esz hB.size⟩
theorem Conc.but {X:Cx}{st:AS}{fr:Fr}{w w':World}{m:Mem}{ρ:List Value}{φ:List Frag}{b:Nat}(h:Conc X st fr w m ρ φ) (hB:But [] b w w') (hb:X.e.heap.size≤b) : Conc X st fr w' m ρ φ :=
 ⟨h.mle,h.pre,h.nρ,h.nφ,h.slots,h.objs,h.sh.but hB hb⟩
theorem runs_wX {P:Program}{m0:Mem}{f:FuncId}{fn:Func}{c:Code}{n:Nat}{args:List AV}{H:List AO}{R:List AV→List AO→Prop}{rs:List ResultVar}(hf:P.funcs[f]?=some fn) (hN:fn.ntmps=n) (hb:fn.body=some c) (hr:fn.results=rs.toArray) (hle:Nat.ble args.length n=true)
  (h:∀ (w0:World) (X:Cx) (ex:Nat→Prop),m0.le X.m→X.ρ.length=H.length→HX ex X→AWC P ⟨n,none,w0,ex,true⟩ X c (retW P X rs H.length R) ⟨argA 0 args,zipH 0 H,H.length⟩) : RunsX m0 P f args H R:=by
 intro e w m ρ φ F vs hm0 hv ho hs
 have hl:=hv.len
 refine retX_of (fun x hx=>Nat.lt_of_lt_of_le (inC_lt hx) hs.esz) hf hb hN (by rw [hl]; exact hle) hr ?_
 refine WC.mono ?_ (h w ⟨e,m,ρ,F⟩ (inC e) hm0 ho.nρ (fun k hk=>.inl hk) _ _ _ _ _ (args_conc hv ho hs))
 rintro ex l w' ⟨st,m',ρ',φ',hc',hq⟩
 cases ex with
 | normal=>obtain ⟨st',h3,h4⟩:=hq; obtain ⟨m'',ρ'',φ'',h5⟩:=h3 _ _ _ _ _ hc'; exact fun w2 hB _=>outs_conc (w:=w) (m:=m) (h5.but hB hs.esz) h4
 | ret=>obtain ⟨st',h3,h4⟩:=hq; obtain ⟨m'',ρ'',φ'',h5⟩:=h3 _ _ _ _ _ hc'; exact fun w2 hB _=>outs_conc (w:=w) (m:=m) (h5.but hB hs.esz) h4
 | _=>exact hq.elim

theorem runs_wM0 {P:Program}{m0:Mem}{f:FuncId}{fn:Func}{c:Code}{n:Nat}{args:List AV}{H:List AO}{R:List AV→List AO→Prop}{rs:List ResultVar}(hf:P.funcs[f]?=some fn) (hN:fn.ntmps=n) (hb:fn.body=some c) (hr:fn.results=rs.toArray) (hle:Nat.ble args.length n=true) (hp:(H.all AO.plain)=true)
  (h:∀ (w0:World) (X:Cx),m0.le X.m→X.ρ.length=H.length→HX nox X→AWC P ⟨n,none,w0,nox,true⟩ X c (retW P X rs H.length R) ⟨argA 0 args,zipH 0 H,H.length⟩) : RunsM m0 P f args H R:=by
 intro e w m ρ φ F vs hm0 hv ho hs
 have hl:=hv.len
 have hnc:=ho.noctl hp
 obtain ⟨e0,he0⟩ : ∃ e0,e0=eWith e w.heap.size (fun k=>∃ o,(k,o)∈F∧ctl o=true):=⟨_,rfl⟩
 have hin : ∀ k,inC e0 k↔k < w.heap.size∧∃ o,(k,o)∈F∧ctl o=true:=fun k=>by rw [he0]; exact inC_eWith
 have hsz : e0.heap.size=w.heap.size:=by rw [he0]; exact eWith_size
 have hs0 : SH e0 w m (φ.flatten++F):=hs.at_e (by rw [he0]; rfl) (by rw [he0]; rfl) (by rw [he0]; rfl) (fun p hp' hc=>by
  rcases List.mem_append.1 hp' with h1 | h1
  ·rw [hnc p h1] at hc; cases hc
  ·exact (hin _).2 ⟨hs.lt hp',p.2,h1,hc⟩) (by rw [hsz]; exact Nat.le_refl _)
 have hret : Ret P f vs.toArray w fun v w'=>∃ rs H' m' ρ' φ',R rs H'∧m.le m'∧(∀ (i:Nat) (h:Value),ρ[i]?=some h→ρ'[i]?=some h)∧H.length≤H'.length∧zCl m' ρ' H' φ'∧SH e0 w' m' (φ'.flatten++F)∧∃ us,RepL m' ρ' rs us∧v=zBg us:=by
  refine ret_ofM hf hb hN (by rw [hl]; exact hle) hr ?_
  refine WC.mono ?_ (h w ⟨e0,m,ρ,F⟩ hm0 ho.nρ (fun k hk=>.inr (by obtain ⟨_,o,h1,_⟩:=(hin k).1 hk; exact ⟨o,h1⟩)) _ _ _ _ _ (args_conc hv ho hs0))
  rintro ex l w' ⟨st,m',ρ',φ',hc',hq⟩
  cases ex with
  | normal=>obtain ⟨st',h3,h4⟩:=hq; obtain ⟨m'',ρ'',φ'',h5⟩:=h3 _ _ _ _ _ hc'; exact fun w2 hB _=>outs_conc (w:=w) (m:=m) (h5.but hB (Nat.le_of_eq hsz)) h4
  | ret=>obtain ⟨st',h3,h4⟩:=hq; obtain ⟨m'',ρ'',φ'',h5⟩:=h3 _ _ _ _ _ hc'; exact fun w2 hB _=>outs_conc (w:=w) (m:=m) (h5.but hB (Nat.le_of_eq hsz)) h4
  | _=>exact hq.elim
 refine Calls.mono hret ?_
 rintro en w' ⟨v,he,hd,rs',H',m',ρ',φ',h1,h2,h3,h4,h5,h6,h7⟩
 refine ⟨v,he,hd,rs',H',m',ρ',φ',h1,h2,h3,h4,h5,?_,h7⟩
 refine h6.at_e (by rw [he0]; rfl) (by rw [he0]; rfl) (by rw [he0]; rfl) (fun p hp' hc=>?_) (Nat.le_trans hs.esz hd.2)
 obtain ⟨_,o,h8,h9⟩:=(hin _).1 (h6.noctl p hp' hc)
 exact hs.noctl (p.1,o) (List.mem_append.2 (.inr h8)) h9
theorem runs_wM {P:Program}{f:FuncId}{fn:Func}{c:Code}{n:Nat}{args:List AV}{H:List AO}{R:List AV→List AO→Prop}{rs:List ResultVar}(hf:P.funcs[f]?=some fn) (hN:fn.ntmps=n) (hb:fn.body=some c) (hr:fn.results=rs.toArray) (hle:Nat.ble args.length n=true) (hp:(H.all AO.plain)=true)
  (h:∀ (w0:World) (X:Cx),X.ρ.length=H.length→HX nox X→AWC P ⟨n,none,w0,nox,true⟩ X c (retW P X rs H.length R) ⟨argA 0 args,zipH 0 H,H.length⟩) : Runs P f args H R:=fun e w m ρ φ F vs hv ho hs =>
 runs_wM0 (m0:=fun _=>none) hf hN hb hr hle hp (fun w0 X _=>h w0 X) e w m ρ φ F vs (fun b o hb=>by cases hb) hv ho hs

def zDk (P:Program) (L:Nat) (args:List AV) (b:Bool) (g g':Mem→Frag→Prop) : Prop :=
 ∀ (e w:World) (m:Mem) (f F:Frag) (vs:List Value),RepL m [] args vs→(∃ m0,m0.le m∧g m0 f)→SH e w m (f++F) →
  YieldAt (FW none) 0 P L vs.toArray w fun en w'=>en=.returned (.bool b)∧DK (inC e) w w'∧w.heap.size≤w'.heap.size∧∃ m' f',m.le m'∧g' m' f'∧SH e w' m' (f'++F)

theorem dk_frame {ex:Nat→Prop}{X:Cx}{w w':World}{m m':Mem}{f f':Frag}(hx:HX ex X) (hd:DK (inC X.e) w w') (h:SH X.e w m (f++X.F)) (h':SH X.e w' m' (f'++X.F)) : DK ex w w':=by
 intro k o hk hc hn
 by_cases hi : inC X.e k
 ·rcases hx k hi with he | ⟨o',ho'⟩
  ·exact absurd he hn
  ·have h1:=h.own (k,o') (List.mem_append.2 (.inr ho'))
   have h2:=h'.own (k,o') (List.mem_append.2 (.inr ho'))
   simp only at h1 h2
   rw [hk] at h1; cases h1; exact h2
 ·exact hd k o hk hc hi

section
variable {P:Program} {N:Ev} {X:Cx} {Q:zBa} {st:AS}
variable {d:Nat} {T U T':TypeId} {pos:String} {aft:Array Edge} {g:Option (Nat×Bool)} {x y:Operand}
theorem aop_yield {fx:Operand}{L i:Nat}{b:Bool}{xs:List Operand}{as':List AV}{ts:Array TypeId}{p p':Mem→Frag→Prop}{K:AS→Prop}(hfx:aev st.l fx=some (.yld L)) (hx:xs.map (aev st.l)=as'.map some) (hcl:renL [] as'=as') (hex:HX N.ex X) (hH:st.H.get i=.guest p) (hi:Nat.blt i st.n=true) (hY:zDk P L as' b p p')
  (k:K ⟨(d,.bool b)::st.l,(i,.guest p')::st.H,st.n⟩) (hN:Nat.blt d N.n=true:=by rfl) : AOp P N X ⟨some d,.call ⟨.value fx,xs.toArray,ts⟩,U,pos,aft,g⟩ K st:=by
 intro Q fr w m ρ φ hc a ha hgd
 obtain ⟨fv,h1,h2⟩:=hc.ev hfx
 simp only [RepA] at h2
 subst h2
 obtain ⟨vs,h3,h4⟩:=hc.evl hx
 have h4' : RepL m [] as' vs:=by
  refine zB3 (σ:=[]) (ρ:=ρ) (fun i j u hi _=>by simp at hi) as' ?_
  rw [hcl]; exact h4
 have hin : i < st.n:=by simpa using hi
 obtain ⟨h,hh⟩ : ∃ h,ρ[i]?=some h:=⟨_,List.getElem?_eq_getElem (by rw [hc.nρ]; exact hin)⟩
 obtain ⟨f,hf⟩ : ∃ f,φ[i]?=some f:=⟨_,List.getElem?_eq_getElem (by rw [hc.nφ]; exact hin)⟩
 have ho:=hc.objs i h f hh hf
 rw [hH] at ho
 obtain ⟨fn,tm,asg,bd,hy,hR⟩:=hY X.e w m f _ vs h4' ho (hc.front hf)
 refine ⟨fun _ _=>trivial,?_⟩
 show Oper.uponIn (FW N.ro) 0 P _ a _ _ ((Oper.semAt N.ro a.eval _).run P w)
 have e:=evl_eval ha h3
 have hrun : (execOp a.eval ⟨some d,.call ⟨.value fx,xs.toArray,ts⟩,U,pos,aft,g⟩).run P w=.ok (.round L fn tm asg bd) w:=by
  simp [execOp,resolve,Deferred.ofValue,ha.eval h1,invoke,e,hy]
 rw [zCe rfl,hrun,Oper.uponIn_round]
 refine ⟨(fun h=>by simp [FW] at h),(roundIn_FW hR).mono ?_⟩
 rintro en w' ⟨rfl,hdk,hsz,m',f',hm,hg',hs'⟩
 have hs2 : SH X.e w' m' ((φ.set i f').flatten++X.F):=by
  refine hs'.perm ?_
  rw [← List.append_assoc]
  exact List.Perm.append_right _ (zBl hf f').2.symm
 refine ⟨_,ha.put (by simpa [Nat.blt_eq] using hN) (.bool b),hgd.step rfl (dk_frame hex hdk hc.sh hs2) hsz,⟨_,m',ρ,φ.set i f',?_,k⟩⟩
 have hc1 : Conc X (st.put d (.bool b)) ((d,.bool b)::fr) w m ρ φ:=hc.put (by simp only [RepA])
 refine ⟨hc1.mle.trans hm,hc1.pre,hc1.nρ,by rw [List.length_set]; exact hc1.nφ,fun t b hb=>let ⟨v,q1,q2⟩:=hc1.slots t b hb; ⟨v,q1,RepA.mono hm (fun _ _ h=>h) b q2⟩,?_,hs2⟩
 intro j hd fj hj hfj
 show ORep m' ρ (AH.get ((i,.guest p')::st.H) j) hd fj
 rw [AH.get_cons]
 split
 ·rename_i ee
  subst ee
  rw [List.getElem?_set_self (by rw [hc.nφ]; exact hin)] at hfj
  cases hfj
  exact ⟨m',Mem.le_refl _,hg'⟩
 ·rename_i ee
  rw [List.getElem?_set_ne (fun e=>ee e)] at hfj
  exact (hc.objs j hd fj hj hfj).mono hm (fun _ _ h=>h)

def zipA : AFr→List Nat→List AV→AFr
 | l,p::ps,v::vs=>zipA ((p,v)::l) ps vs
 | l,_,_=>l
theorem zip_rep {m:Mem}{ρ:List Value} : ∀ {ps:List Nat}{as':List AV}{vs:List Value}{l:AFr}{fr:Fr},(∀ t a,l.look t=some a→∃ v,fr.look t=some v∧RepA m ρ a v)→RepL m ρ as' vs→∀ t a,(zipA l ps as').look t=some a→∃ v,(zipFr fr ps vs).look t=some v∧RepA m ρ a v:=by
 intro ps
 induction ps with
 | nil=>intro as' vs l fr h _ t a ht; simp only [zipA] at ht; simp only [zipFr]; exact h t a ht
 | cons p ps ih =>
  intro as' vs l fr h hv t a ht
  cases as' with
  | nil=>cases vs with
   | nil=>simp only [zipA] at ht; simp only [zipFr]; exact h t a ht
   | cons=>simp [RepL] at hv
  | cons b as'=>cases vs with
   | nil=>simp [RepL] at hv
   | cons v vs =>
    simp only [RepL] at hv
    simp only [zipA] at ht
    simp only [zipFr]
    refine ih ?_ hv.2 t a ht
    intro q c hq
    rw [AFr.look_cons] at hq
    rw [Fr.look_cons]
    split
    ·rename_i e; rw [if_pos e] at hq; cases hq; exact ⟨v,rfl,hv.1⟩
    ·rename_i e; rw [if_neg e] at hq; exact h q c hq

def rangeQ {σ R:Type}(X:Cx) (H:σ→AH) (Hx:R→AH) (ek:R→Exit) (n:Nat) (nx:R→Nat) : σ ⊕ R→zBa
 | .inl s,e,st=>e=.normal∧Wk X st ⟨[],H s,n⟩
 | .inr r,e,st=>e=ek r∧Wk X st ⟨[],Hx r,nx r⟩
def gst (m:Mem) (ρk:List Value) (H:AH) (n:Nat) : Mem→Frag→Prop:=fun m1 f=>m.le m1∧∃ (ρ1:List Value) (φ1:List Frag),(∀ (i:Nat) (h:Value),ρk[i]?=some h→ρ1[i]?=some h)∧ρ1.length=n∧φ1.length=n ∧
 (∀ (i:Nat) (h:Value) (f:Frag),ρ1[i]?=some h→φ1[i]?=some f→ORep m1 ρ1 (H.get i) h f)∧f=φ1.flatten
def gsr (L:Nat) (rec:Obj) (p:Mem→Frag→Prop) : Mem→Frag→Prop:=fun m1 f=>∃ f0,f=(L,rec)::f0∧p m1 f0

theorem closed_at {σ:List Nat}{t:Nat}{a:AV} : ∀ {l:AFr},l.map (fun p=>renA σ p.2)=l.map (·.2)→l.look t=some a→renA σ a=a:=by
 intro l
 induction l with
 | nil=>intro _ h; simp [AFr.look] at h
 | cons p r ih =>
  intro hcl ht
  obtain ⟨t',b⟩:=p
  rw [AFr.look_cons] at ht
  simp only [List.map_cons,List.cons.injEq] at hcl
  split at ht
  ·cases ht; exact hcl.1
  ·exact ih hcl.2 ht

theorem frag_take {φ:List Frag} : ∀ {σ:List Nat},σ.Nodup→(∀ i∈σ,i < φ.length)→∃ φ0 : List Frag,φ0.length=φ.length∧(∀ i∈σ,φ0[i]?=some [])∧(∀ i,i∉σ→φ0[i]?=φ[i]?)∧φ.flatten.Perm ((σ.map fun i=>φ.getD i []).flatten++φ0.flatten):=by
 intro σ
 induction σ with
 | nil=>intro _ _; exact ⟨φ,rfl,by simp,fun _ _=>rfl,by simp⟩
 | cons a σ ih =>
  intro hn hl
  obtain ⟨hn1,hn2⟩:=List.nodup_cons.1 hn
  obtain ⟨φ0,h1,h2,h3,h4⟩:=ih hn2 (fun i hi=>hl i (by simp [hi]))
  have ha : a < φ.length:=hl a (by simp)
  have hf : φ0[a]?=some (φ.getD a []):=by rw [h3 a hn1,List.getD_eq_getElem?_getD,List.getElem?_eq_getElem ha]; rfl
  refine ⟨φ0.set a [],by simp [h1],?_,?_,?_⟩
  ·intro i hi
   by_cases e : a=i
   ·subst e; exact List.getElem?_set_self (by omega)
   ·rw [List.getElem?_set_ne e]
    rcases List.mem_cons.1 hi with rfl | hi
    ·exact absurd rfl e
    ·exact h2 i hi
  ·intro i hi; rw [List.getElem?_set_ne (fun e=>hi (by simp [e]))]; exact h3 i (fun h=>hi (by simp [h]))
  ·rw [List.map_cons,List.flatten_cons]
   refine h4.trans ?_
   have hs:=zBl hf []
   refine (List.Perm.append_left _ (hs.1.trans (List.Perm.append_left _ hs.2.symm))).trans ?_
   rw [← List.append_assoc]; exact List.Perm.append_right _ List.perm_append_comm
theorem SH.putC {e w:World}{m:Mem}{f:Frag}{b:Nat}{o o':Obj}(h:SH e w m ((b,o)::f)) (hc:inC e b) : SH e (w.putObj b o') m ((b,o')::f):=by
 have hnd:=h.nd
 rw [List.map_cons,List.nodup_cons] at hnd
 have hlt : b < w.heap.size:=(Array.getElem?_eq_some_iff.1 (h.own (b,o) (by simp))).1
 refine ⟨h.os,h.tape,h.output,fun x o' hx=>(World.putObj_heap_other ?_).trans (h.fz _ _ hx),?_,?_,?_,?_,h.mctl,by simpa using h.esz⟩
 ·rintro rfl
  have:=h.dis (x,o) (by simp)
  simp only at this
  rw [this] at hx; cases hx
 ·intro p hp
  rcases List.mem_cons.1 hp with rfl | hp
  ·exact World.putObj_heap_same hlt
  ·refine (World.putObj_heap_other ?_).trans (h.own p (by simp [hp]))
   intro he
   exact hnd.1 (List.mem_map.2 ⟨p,hp,he⟩)
 ·rw [List.map_cons,List.nodup_cons]; exact hnd
 ·intro p hp
  rcases List.mem_cons.1 hp with rfl | hp
  ·exact h.dis (b,o) (by simp)
  ·exact h.dis p (by simp [hp])
 ·intro p hp _
  rcases List.mem_cons.1 hp with rfl | hp
  ·exact hc
  ·rename_i hq; exact h.noctl p (by simp [hp]) hq
theorem SH.newC {e e' w:World}{m:Mem}{f:Frag}{b:Nat}{o:Obj}(h:SH e w m f) (hb:w.heap[b]?=some o) (hf:∀ p∈f,p.1≠b) (hm:m b=none) (h1:e'.os=e.os) (h2:e'.tape=e.tape) (h3:e'.output=e.output) (hC:inC e' b) (h4:∀ p∈f,ctl p.2=true→inC e' p.1) (h5:e'.heap.size≤w.heap.size) : SH e' w m ((b,o)::f):=by
 refine ⟨h.os.trans h1.symm,h.tape.trans h2.symm,h.output.trans h3.symm,h.fz,?_,?_,?_,?_,h.mctl,h5⟩
 ·intro p hp
  rcases List.mem_cons.1 hp with rfl | hp
  ·exact hb
  ·exact h.own p hp
 ·rw [List.map_cons,List.nodup_cons]
  refine ⟨fun hx=>?_,h.nd⟩
  obtain ⟨p,hp,he⟩:=List.mem_map.1 hx
  exact hf p hp he
 ·intro p hp
  rcases List.mem_cons.1 hp with rfl | hp
  ·exact hm
  ·exact h.dis p hp
 ·intro p hp hc
  rcases List.mem_cons.1 hp with rfl | hp
  ·exact hC
  ·exact h4 p hp hc
theorem dk_putC {ex:Nat→Prop}{L:Nat}{W:World}{o:Obj}(h:ex L) : DK ex W (W.putObj L o):=fun k o' hk _ he=>(World.putObj_heap_other (fun e=>he (by subst e; exact h))).trans hk

theorem RunsX.mono {m0:Mem}{f:FuncId}{as':List AV}{Hs:List AO}{Q1 Q2:List AV→List AO→Prop}(h:RunsX m0 P f as' Hs Q1) (k:∀ rs H',Q1 rs H'→Q2 rs H') : RunsX m0 P f as' Hs Q2:=by
 intro e w m ρ φ F vs hm hv ho hs
 refine Calls.mono (h e w m ρ φ F vs hm hv ho hs) ?_
 rintro ex w' ⟨v,h1,h2,rs,H',m',ρ',φ',h3,h4⟩
 exact ⟨v,h1,h2,rs,H',m',ρ',φ',k _ _ h3,h4⟩
theorem awc_rangeXK {σ α R:Type}{gx:Operand}{ps:List Nat}{assign body:Code}{gf:Nat}{caps:List AV}(caps1:List AV) (H1:List AO) (k:Nat) (q:σ→α→Option (σ ⊕ R)) (enc:α→List AV) (l:AFr) (H:σ→AH) (Hx:R→AH) (ek:R→Exit) (n:Nat) (nx:R→Nat) (σc:List Nat){H0:AH}{s0:σ}{K:σ ⊕ R→Prop}
  (hro:N.ro=none) (hmr:N.mr=true) (hxe:HX N.ex X) (hg:aev l gx=some (.fn gf [] caps)) (hE:Enters P gf) (hcaps:renL (n::σc) caps1=caps) (hpn:(ps.all fun p=>Nat.blt p N.n)=true) (hps:∀ x,Nat.beq (enc x).length ps.length=true)
  (hk:Nat.ble k n=true) (hkX:Nat.ble X.ρ.length k=true) (hcl:l.map (fun p=>renA (List.range k) p.2)=l.map (·.2))
  (hσ:(zCn σc&&σc.all fun i=>Nat.blt i n)=true) (hH1:σc.map H0.get=H1.map (AO.ren (n::σc)))
  (hH0:(List.range n).map (H s0).get=(List.range n).map fun i=>bif σc.contains i then AO.dead else H0.get i)
  (hit:∀ (L:Nat) (G:σ→Mem→Frag→Prop) (Gx:R→Mem→Frag→Prop),(∀ s x s',q s x=some (.inl s')→zDk P L (enc x) true (G s) (G s'))→(∀ s x r,q s x=some (.inr r)→zDk P L (enc x) false (G s) (Gx r)) →
   RunsX X.m P gf (.yld L::caps1) (.guest (G s0)::H1) fun rs H'=>∃ o,K o∧rs=[]∧∃ Hc,H'=.guest (Sum.elim G Gx o)::Hc)
  (hbody:∀ (w0:World) (L:Nat) (X2:Cx) (ex:Nat→Prop),X.m.le X2.m→X2.ρ.length=k→HX ex X2→∀ s x s',q s x=some s'→AWC P ⟨N.n,some L,w0,ex,false⟩ X2 assign (fun e st1=>e=.normal∧∀ (w0:World) (X2:Cx) (ex:Nat→Prop),X.m.le X2.m→X2.ρ.length=k→HX ex X2 →
   AWC P ⟨N.n,some L,w0,ex,false⟩ X2 body (rangeQ X2 H Hx ek n nx s') st1) ⟨zipA l ps (enc x),H s,n⟩)
  (hek:∀ r,(jumpOf (ek r)).isSome=true)
  (hdone:∀ s1,K (.inl s1)→Q .normal ⟨l,H s1,n⟩) (hstop:∀ r,K (.inr r)→Q (ek r) ⟨l,Hx r,nx r⟩) : AWC P N X (.rangeFunc gx ps.toArray assign body) Q ⟨l,H0,n⟩:=by
 intro fr w m ρ φ hc
 have hk':=Nat.le_of_ble_eq_true hk
 have hkX':=Nat.le_of_ble_eq_true hkX
 have hnρ : ρ.length=n:=hc.nρ
 have hnφ : φ.length=n:=hc.nφ
 rw [Bool.and_eq_true] at hσ
 have hnd:=zCS hσ.1
 have hlt : ∀ i∈σc,i < n:=by
  intro i hi
  have:=hσ.2
  rw [List.all_eq_true] at this
  simpa using this i hi
 obtain ⟨ρk,hρk⟩ : ∃ ρk,ρk=ρ.take k:=⟨_,rfl⟩
 have hρkl : ρk.length=k:=by rw [hρk,List.length_take]; omega
 have hρkp : ∀ (i:Nat) (h:Value),ρk[i]?=some h→ρ[i]?=some h:=by
  intro i h hi
  rw [hρk,List.getElem?_take] at hi
  split at hi
  ·exact hi
  ·cases hi
 have hsl : ∀ t a,l.look t=some a→∃ v,fr.look t=some v∧RepA m ρk a v:=by
  intro t a ht
  obtain ⟨v,h1,h2⟩:=hc.slots t a ht
  refine ⟨v,h1,ren_fwd (σ:=List.range k) (ρ:=ρ) ?_ a ?_⟩
  ·intro i j u hi hj
   have hil:=(List.getElem?_eq_some_iff.1 hi).1
   rw [List.getElem?_range (by simpa using hil)] at hi
   cases hi
   rw [hρk,List.getElem?_take,if_pos (by simpa using hil)]
   exact hj
  ·have:=closed_at hcl ht
   rw [this]; exact h2
 obtain ⟨gv,hgv,hgr⟩:=hc.ev hg
 simp only [RepA] at hgr
 obtain ⟨us,ws,rfl,hus,hws⟩:=hgr
 have hus' : us=[]:=by
  cases us with
  | nil=>rfl
  | cons=>simp [RepL] at hus
 subst hus'
 -- what goes into the iterator
 obtain ⟨φ0,hφ1,hφ2,hφ3,hφ4⟩:=frag_take (φ:=φ) hnd (fun i hi=>by rw [hnφ]; exact hlt i hi)
 obtain ⟨ρc,hρc⟩ : ∃ ρc,ρc=σc.map fun i=>ρ.getD i undef:=⟨_,rfl⟩
 obtain ⟨φc,hφc⟩ : ∃ φc,φc=σc.map fun i=>φ.getD i []:=⟨_,rfl⟩
 rw [← hφc] at hφ4
 have hfwd : ∀ (i j:Nat) (u:Value),(n::σc)[i]?=some j→ρ[j]?=some u→(undef::ρc)[i]?=some u:=by
  intro i j u hi hj
  cases i with
  | zero =>
   simp at hi; subst hi
   have:=(List.getElem?_eq_some_iff.1 hj).1
   omega
  | succ i =>
   simp only [List.getElem?_cons_succ] at hi ⊢
   rw [hρc,List.getElem?_map,hi,Option.map_some,List.getD_eq_getElem?_getD,hj]; rfl
 have hws' : RepL m (undef::ρc) caps1 ws:=by
  refine zB3 hfwd caps1 ?_
  rw [hcaps]; exact hws
 have hlen : σc.length=H1.length:=by simpa using congrArg List.length hH1
 intro a ha hgd
 rw [hro]
 refine wpIn_rangeFunc ?_
 intro fn hfn
 obtain ⟨rec,hrec⟩ : ∃ rec : LoopState→Option Code→Loop,rec=fun st pe=>{ state:=st,pending:=pe,fn,tmps:=a.tmps,params:=ps.toArray,assign,body,defers:=w.heap.size }:=⟨_,rfl⟩
 obtain ⟨W1,hW1⟩ : ∃ W1,(w.alloc (.deferred (some []))).alloc (.loop (rec .ready none))=W1:=⟨_,rfl⟩
 obtain ⟨L,hL⟩ : ∃ L,L=w.heap.size+1:=⟨_,rfl⟩
 have hL1 : W1.heap[L]?=some (.loop (rec .ready none)):=by
  rw [← hW1,hL]; have:=World.alloc_heap_new (w.alloc (.deferred (some []))) (.loop (rec .ready none)); rwa [World.size_alloc] at this
 have hK1 : W1.heap[w.heap.size]?=some (.deferred (some [])):=by
  rw [← hW1]; exact (Below.heap_alloc _ _ _ (by simp)).trans (World.alloc_heap_new w _)
 have hb1 : Below w.heap.size w W1:=by
  rw [← hW1]; exact (((Below.refl _ w).alloc (Nat.le_refl _) _).alloc (by simp) _)
 have hs1 : W1.heap.size=w.heap.size+2:=by rw [← hW1]; simp
 have hwL : w.heap.size≤L:=by omega
 -- the rounds
 obtain ⟨G,hG⟩ : ∃ G : σ→Mem→Frag→Prop,G=fun s=>gsr L (.loop (rec .ready none)) (gst m ρk (H s) n):=⟨_,rfl⟩
 obtain ⟨Gx,hGx⟩ : ∃ Gx : R→Mem→Frag→Prop,Gx=fun r m1 f=>∃ c,jumpOf (ek r)=some c∧gsr L (.loop (rec .done (some c))) (gst m ρk (Hx r) (nx r)) m1 f:=⟨_,rfl⟩
 have hyield : ∀ s x so,q s x=some so→zDk P L (enc x) (match so with | .inl _=>true | .inr _=>false) (G s) (Sum.elim G Gx so):=by
  intro s x so hq e V m1 f F vs hvs ⟨m0,hm0,hg0⟩ hsh
  rw [hG] at hg0
  obtain ⟨f0,rfl,hm2,ρ1,φ1,hp1,hn1,hn2,ho1,rfl⟩:=hg0
  have hl : V.heap[L]?=some (.loop (rec .ready none)):=hsh.own (L,_) (by simp)
  have hC : inC e L:=hsh.noctl (L,.loop (rec .ready none)) (by simp) rfl
  have hy:=run_yield (P:=P) (args:=vs.toArray) hl (by
   rw [hrec]
   have h1:=Nat.eq_of_beq_eq_true (hps x)
   have h2:=hvs.len
   simp only [List.size_toArray]
   omega)
  rw [hrec] at hy
  obtain ⟨ex,hexd⟩ : ∃ ex : Nat→Prop,ex=fun k=>inC e k∧k≠L:=⟨_,rfl⟩
  have hexl : ∀ {W:World},e.heap.size≤W.heap.size→∀ x,ex x→x < W.heap.size:=fun h x hx=>by rw [hexd] at hx; exact Nat.lt_of_lt_of_le (inC_lt hx.1) h
  have hexL : ¬ ex L:=by rw [hexd]; exact fun h=>h.2 rfl
  have hexi : ∀ k,ex k→inC e k:=fun k h=>by rw [hexd] at h; exact h.1
  have hHX : ∀ o,HX ex ⟨e,m1,ρk,(L,o)::F⟩:=fun o k hk=>by
   by_cases e1 : k=L
   ·subst e1; exact .inr ⟨o,by simp⟩
   ·exact .inl (by rw [hexd]; exact ⟨hk,e1⟩)
  have hshA : SH e V m1 (φ1.flatten++((L,.loop (rec .ready none))::F)):=hsh.perm (by simpa using List.perm_middle.symm)
  have hcb : Conc ⟨e,m1,ρk,(L,.loop (rec .ready none))::F⟩ ⟨zipA l ps (enc x),H s,n⟩ (zipFr fr ps vs) V m1 ρ1 φ1:=by
   refine ⟨Mem.le_refl _,hp1,hn1,hn2,zip_rep (fun t a ht=>?_) (RepL.mono (Mem.le_refl _) (fun i h hi=>by simp at hi) _ hvs),fun i h f h1 h2=>(ho1 i h f h1 h2).mono hm0 (fun _ _ h=>h),hshA⟩
   obtain ⟨v,h1,h2⟩:=hsl t a ht
   exact ⟨v,h1,RepA.mono (hm2.trans hm0) hp1 a h2⟩
  have hXm : X.m.le m1:=hc.mle.trans (hm2.trans hm0)
  have hst:=hbody V L ⟨e,m1,ρk,(L,.loop (rec .ready none))::F⟩ ex hXm hρkl (hHX _) s x so hq _ _ _ _ _ hcb { tmps:=(ps.toArray.zip vs.toArray).foldl (fun t (p,v)=>t.setIfInBounds p v) a.tmps,defers:=[] } (by
    have:=zip_hold (N:=⟨N.n,some L,V,ex,false⟩) (ps:=ps) (vs:=vs) (l:=fr) (tm:=a.tmps) (ds:=[]) hpn ⟨ha.size,ha.slot⟩
    simpa using this)
   ⟨DK.refl,Nat.le_refl _,hexl hsh.esz,⟨[],rfl,fun _=>rfl,List.nodup_nil,fun D h=>by cases h⟩,fun l0 h0=>by cases h0; exact ⟨hexL,_,hl⟩⟩
  refine ⟨fn,_,assign,body,hy,roundIn_of_wpIn (F:=FW none) hfn (wpIn_mono hst ?_)⟩
  rintro xe a1 V1 ⟨l1,hl1,g1,st1,m3,ρ3,φ3,hc3,rfl,q1⟩
  have hr1 : V1.heap[L]?=some (.loop (rec .ready none)):=hc3.sh.own (L,_) (by simp)
  have hbr:=run_beginRound (P:=P) hr1 (by rw [hrec])
  obtain ⟨V2,hV2⟩ : ∃ V2,V1.putObj L (.loop { rec .ready none with state:=.busy })=V2:=⟨_,rfl⟩
  rw [hV2] at hbr
  have hs2 : V1.heap.size=V2.heap.size:=by rw [← hV2]; simp
  have hd1 : a1.defers=[]:=by
   obtain ⟨Ds,e1,e2,_⟩:=g1.marks
   rw [e1,e2 rfl]; rfl
  have hsh2 : SH e V2 m3 (φ3.flatten++((L,.loop { rec .ready none with state:=.busy })::F)):=by
   have h1 : SH e V1 m3 ((L,.loop (rec .ready none))::(φ3.flatten++F)):=hc3.sh.perm List.perm_middle
   have h2:=h1.putC (o':=.loop { rec .ready none with state:=.busy }) hC
   rw [hV2] at h2
   exact h2.perm List.perm_middle.symm
  have hcb2 : Conc ⟨e,m1,ρk,(L,.loop { rec .ready none with state:=.busy })::F⟩ st1 l1 V2 m3 ρ3 φ3:=⟨hc3.mle,hc3.pre,hc3.nρ,hc3.nφ,hc3.slots,hc3.objs,hsh2⟩
  have hr2 : V2.heap[L]?=some (.loop { rec .ready none with state:=.busy }):=hsh2.own (L,_) (by simp)
  refine ⟨V2,hbr,wpIn_mono (q1 V2 ⟨e,m1,ρk,(L,.loop { rec .ready none with state:=.busy })::F⟩ ex hXm hρkl (hHX _) _ _ _ _ _ hcb2 a1 ⟨hl1.size,hl1.slot⟩
   ⟨DK.refl,Nat.le_refl _,hexl hsh2.esz,⟨[],hd1,fun _=>rfl,List.nodup_nil,fun D h=>by cases h⟩,fun l0 h0=>by cases h0; exact ⟨hexL,_,hr2⟩⟩) ?_⟩
  rintro xe a3 V3 ⟨l3,hl3,g3,st3,m4,ρ4,φ4,hc4,q3⟩
  have h13 : V.heap.size≤V1.heap.size:=g1.size
  have h23 : V2.heap.size≤V3.heap.size:=g3.size
  have hfin : ∀ (jump:Option Code) (H':AH) (n:Nat) (l3:Fr) (m5:Mem) (ρ5:List Value) (φ5:List Frag),Conc ⟨e,m1,ρk,(L,.loop { rec .ready none with state:=.busy })::F⟩ ⟨[],H',n⟩ l3 V3 m5 ρ5 φ5 →
    ∃ V4,(Instr.endRound L jump).run P V3=.ok (.bool jump.isNone) V4∧DK (inC e) V V4∧V.heap.size≤V4.heap.size∧∃ m' f',m1.le m'∧gsr L (.loop (rec (if jump.isNone then .ready else .done) jump)) (gst m ρk H' n) m' f'∧SH e V4 m' (f'++F):=by
   intro jump H' n l3 m5 ρ5 φ5 hc5
   have hr3 : V3.heap[L]?=some (.loop { rec .ready none with state:=.busy }):=hc5.sh.own (L,_) (by simp)
   have hend:=run_endRound (P:=P) jump hr3
   refine ⟨_,hend,?_,by simp; omega,m5,(L,.loop (rec (if jump.isNone then .ready else .done) jump))::φ5.flatten,hc5.mle,⟨_,rfl,(hm2.trans hm0).trans hc5.mle,ρ5,φ5,hc5.pre,hc5.nρ,hc5.nφ,hc5.objs,rfl⟩,?_⟩
   ·refine (((g1.dk.weak hexi).trans ?_).trans (g3.dk.weak hexi)).trans (dk_putC hC)
    rw [← hV2]; exact dk_putC hC
   ·have h1 : SH e V3 m5 ((L,.loop { rec .ready none with state:=.busy })::(φ5.flatten++F)):=hc5.sh.perm List.perm_middle
    have h2:=h1.putC (o':=.loop (rec (if jump.isNone then .ready else .done) jump)) hC
    have h3 : ({ rec .ready none with state:=if jump.isNone then .ready else .done,pending:=jump } : Loop)=rec (if jump.isNone then .ready else .done) jump:=by rw [hrec]
    simpa [hrec] using h2
  cases so with
  | inl s' =>
   obtain ⟨rfl,hw⟩:=q3
   obtain ⟨m5,ρ5,φ5,hc5⟩:=hw _ _ _ _ _ hc4
   obtain ⟨V4,f1,f2,f3,f4⟩:=hfin none (H s') n _ _ _ _ hc5
   refine ⟨_,V4,f1,rfl,f2,f3,?_⟩
   rw [hG]; simpa using f4
  | inr r =>
   obtain ⟨rfl,hw⟩:=q3
   obtain ⟨m5,ρ5,φ5,hc5⟩:=hw _ _ _ _ _ hc4
   have hj:=hek r
   cases hr : ek r with
   | ret =>
    obtain ⟨V4,f1,f2,f3,m',f',f4,f5,f6⟩:=hfin (some .ret) (Hx r) (nx r) _ _ _ _ hc5
    exact ⟨_,V4,f1,rfl,f2,f3,m',f',f4,by rw [hGx]; exact ⟨.ret,by rw [hr]; rfl,f5⟩,f6⟩
   | exit id =>
    obtain ⟨V4,f1,f2,f3,m',f',f4,f5,f6⟩:=hfin (some (.exit id)) (Hx r) (nx r) _ _ _ _ hc5
    exact ⟨_,V4,f1,rfl,f2,f3,m',f',f4,by rw [hGx]; exact ⟨.exit id,by rw [hr]; rfl,f5⟩,f6⟩
   | _=>rw [hr] at hj; cases hj
 -- the call
 have hsh1 : SH X.e W1 m (φ.flatten++X.F):=hc.sh.ext hb1
 have hfw : ∀ p∈φ.flatten++X.F,p.1 < w.heap.size:=fun p hp=>hc.sh.lt hp
 have hmL : ∀ b,w.heap.size≤b→m b=none:=fun b hb=>by
  cases hx : m b with
  | none=>rfl
  | some o'=>have:=(Array.getElem?_eq_some_iff.1 (hc.sh.fz _ _ hx)).1; omega
 obtain ⟨e2,he2⟩ : ∃ e2,e2=eWith X.e W1.heap.size (fun k=>k=L∨∃ o,(k,o)∈φ.flatten++X.F∧ctl o=true):=⟨_,rfl⟩
 have hin2 : ∀ k,inC e2 k↔k < W1.heap.size∧(k=L∨∃ o,(k,o)∈φ.flatten++X.F∧ctl o=true):=fun k=>by rw [he2]; exact inC_eWith
 have hs2 : e2.heap.size=W1.heap.size:=by rw [he2]; exact eWith_size
 have heo : e2.os=X.e.os∧e2.tape=X.e.tape∧e2.output=X.e.output:=by rw [he2]; exact ⟨rfl,rfl,rfl⟩
 have hinX : ∀ k,inC e2 k→k≠L→inC X.e k:=fun k hk hne=>by
  rcases ((hin2 k).1 hk).2 with h | ⟨o',h1,h2⟩
  ·exact absurd h hne
  ·exact hc.sh.noctl (k,o') h1 h2
 have hshL : SH e2 W1 m ((L,.loop (rec .ready none))::(φ.flatten++X.F)):=hsh1.newC hL1 (fun p hp=>by have:=hfw p hp; omega) (hmL L hwL) heo.1 heo.2.1 heo.2.2 ((hin2 L).2 ⟨by omega,.inl rfl⟩)
  (fun p hp hpc=>(hin2 _).2 ⟨by have:=hfw p hp; omega,.inr ⟨p.2,hp,hpc⟩⟩) (by rw [hs2]; exact Nat.le_refl _)
 have hshC : SH e2 W1 m ((((L,.loop (rec .ready none))::φ0.flatten)::φc).flatten++X.F):=by
  refine hshL.perm ?_
  rw [List.flatten_cons,List.cons_append,List.cons_append]
  refine List.Perm.cons _ ?_
  exact List.Perm.append_right _ (hφ4.trans List.perm_append_comm)
 have hG0 : G s0 m ((L,.loop (rec .ready none))::φ0.flatten):=by
  rw [hG]
  refine ⟨_,rfl,Mem.le_refl _,ρ,φ0,hρkp,hnρ,by rw [hφ1]; exact hnφ,fun i h f hi hf=>?_,rfl⟩
  have hin : i < n:=by rw [← hnρ]; exact (List.getElem?_eq_some_iff.1 hi).1
  have e1:=congrArg (fun l=>l[i]?) hH0
  simp only [List.getElem?_map,List.getElem?_range hin,Option.map_some,Option.some.injEq] at e1
  rw [e1]
  by_cases hm : i∈σc
  ·rw [hφ2 i hm] at hf; cases hf
   have : σc.contains i=true:=by simpa using hm
   rw [this]; rfl
  ·rw [hφ3 i hm] at hf
   have : σc.contains i=false:=by simpa using hm
   rw [this]
   exact hc.objs i h f hi hf
 have hos1 : zCl m (undef::ρc) (.guest (G s0)::H1) (((L,.loop (rec .ready none))::φ0.flatten)::φc):=by
  refine ⟨by simp [hρc,hlen],by simp [hφc,hlen],fun i o' h f hi hh hf=>?_⟩
  cases i with
  | zero=>simp at hi hf; subst hi hf; exact ⟨m,Mem.le_refl _,hG0⟩
  | succ i =>
   simp only [List.getElem?_cons_succ] at hi hh hf
   have hil : i < σc.length:=by rw [hlen]; exact (List.getElem?_eq_some_iff.1 hi).1
   have hσi : σc[i]?=some (σc[i]'hil):=List.getElem?_eq_getElem hil
   have hn:=hlt _ (List.getElem_mem hil)
   have e1:=congrArg (fun l=>l[i]?) hH1
   simp only [List.getElem?_map,hσi,hi,Option.map_some,Option.some.injEq] at e1
   have hρi : ρ[σc[i]'hil]?=some (ρ[σc[i]'hil]'(by rw [hnρ]; exact hn)):=List.getElem?_eq_getElem _
   have hφi : φ[σc[i]'hil]?=some (φ[σc[i]'hil]'(by rw [hnφ]; exact hn)):=List.getElem?_eq_getElem _
   have h1:=hc.objs _ _ _ hρi hφi
   have h1' : ORep m ρ (H0.get (σc[i]'hil)) _ _:=h1
   rw [e1] at h1'
   have h2:=h1'.fwd hfwd
   have eh : h=ρ[σc[i]'hil]'(by rw [hnρ]; exact hn):=by
    rw [hρc,List.getElem?_map,hσi,Option.map_some,List.getD_eq_getElem?_getD,hρi] at hh; exact (Option.some.inj hh).symm
   have ef : f=φ[σc[i]'hil]'(by rw [hnφ]; exact hn):=by
    rw [hφc,List.getElem?_map,hσi,Option.map_some,List.getD_eq_getElem?_getD,hφi] at hf; exact (Option.some.inj hf).symm
   rw [eh,ef]; exact h2
 have hcall:=hit L G Gx (fun s x s' h=>hyield s x (.inl s') h) (fun s x r h=>hyield s x (.inr r) h) e2 W1 m (undef::ρc) (((L,.loop (rec .ready none))::φ0.flatten)::φc) X.F (.func (.yield L) #[] #[]::ws) hc.mle
  (by simp only [RepL,RepA]; exact ⟨trivial,hws'⟩) hos1 hshC
 refine ⟨L,[Eng.mark w.heap.size],W1,{ target:=.fn (.func gf) ws.toArray,args:=#[.func (.yield L) #[] #[]] },W1,gf,(.func (.yield L) #[] #[]::ws).toArray,W1,?_,?_,?_,?_,(fun h=>by simp [FW] at h),?_⟩
 ·rw [← hW1,hrec,hL]; exact run_enterLoop_outer _ _ _ _ _
 ·simp only [resolve,ha.eval hgv]
  simp [go_sem]
 ·intro f' hf'; trivial
 ·have he:=hE (#[.func (.yield L) #[] #[]]++ws.toArray) W1
  simp only [invoke]
  have e2 : (#[Value.func (.yield L) #[] #[]]++ws.toArray : Array Value)=(.func (.yield L) #[] #[]::ws).toArray:=by simp
  rw [e2] at he
  simpa [go_sem,e2] using he
 ·have hholds : Eng.Holds N fr { a with defers:=[Eng.mark w.heap.size]++a.defers }:=⟨ha.size,ha.slot⟩
  refine CallsIn.mono (calls_FW hcall) ?_
  rintro en W ⟨v,rfl,⟨hdk,hsz⟩,rs,H',m',ρ',φ',⟨o,hK,rfl,Hc,rfl⟩,hm',_,_,hos,hshW,_,_,_⟩
  obtain ⟨h,hh⟩ : ∃ h,ρ'[0]?=some h:=⟨_,List.getElem?_eq_getElem (by rw [hos.nρ]; exact Nat.succ_pos _)⟩
  obtain ⟨fG,hf⟩ : ∃ f,φ'[0]?=some f:=⟨_,List.getElem?_eq_getElem (by rw [hos.nφ]; exact Nat.succ_pos _)⟩
  obtain ⟨φr,rfl⟩ : ∃ φr,φ'=fG::φr:=by
   cases φ' with
   | nil=>simp at hf
   | cons f r=>simp at hf; exact ⟨r,by rw [hf]⟩
  obtain ⟨m0,hm0,hg1⟩:=hos.at_ 0 _ h fG rfl hh hf
  have hKn : ¬ inC e2 w.heap.size:=fun hi=>by
   rcases ((hin2 _).1 hi).2 with h | ⟨o',h1,_⟩
   ·omega
   ·have:=hfw _ h1; simp at this
  have hD : W.heap[w.heap.size]?=some (.deferred (some [])):=hdk _ _ hK1 rfl hKn
  -- how it ends
  have hend : ∀ (j:Option Code) (H2:AH) (n:Nat),gsr L (.loop (rec (if j.isNone then .ready else .done) j)) (gst m ρk H2 n) m0 fG →
    ∃ W',(Instr.endLoop L).run P W=.ok j W'∧Eng.Good N { a with defers:=[Eng.mark w.heap.size]++a.defers } W'∧∃ m5 ρ5 φ5,Conc X ⟨l,H2,n⟩ fr W' m5 ρ5 φ5:=by
   rintro j H2 n ⟨f0,rfl,hm2,ρ1,φ1,hp1,hn1,hn2,ho1,rfl⟩
   have hl : W.heap[L]?=some (.loop (rec (if j.isNone then .ready else .done) j)):=hshW.own (L,_) (by simp)
   have h1:=run_endLoop (P:=P) hl (by rw [hrec]; cases j <;> simp)
   have hdrop : SH e2 W m' ((L,.loop (rec (if j.isNone then .ready else .done) j))::(φ1.flatten++X.F)):=by
    have h2 : SH e2 W m' (φr.flatten++((L,.loop (rec (if j.isNone then .ready else .done) j))::(φ1.flatten++X.F))):=by
     refine hshW.perm ?_
     rw [List.flatten_cons,List.append_assoc,List.cons_append]
     refine (List.Perm.cons _ (?_ : (φ1.flatten++(φr.flatten++X.F)).Perm (φr.flatten++(φ1.flatten++X.F)))).trans List.perm_middle.symm
     rw [← List.append_assoc,← List.append_assoc]
     exact List.Perm.append_right _ List.perm_append_comm
    exact h2.tail
   have hnL : ∀ p∈φ1.flatten++X.F,p.1≠L:=by
    intro p hp he
    have hnd:=hdrop.nd
    rw [List.map_cons,List.nodup_cons] at hnd
    exact hnd.1 (List.mem_map.2 ⟨p,hp,he⟩)
   refine ⟨W.putObj L (.loop { rec (if j.isNone then .ready else .done) j with state:=.exhausted }),by rw [h1]; rw [hrec],?_,m',ρ1,φ1,?_⟩
   ·have hstep : DK N.ex w (W.putObj L (.loop { rec (if j.isNone then .ready else .done) j with state:=.exhausted })):=by
     intro k' o' hk1 hc1 hx
     have hlt : k' < w.heap.size:=(Array.getElem?_eq_some_iff.1 hk1).1
     refine (World.putObj_heap_other (by omega)).trans ?_
     have hk2 : W1.heap[k']?=some o':=(hb1.block k' hlt).trans hk1
     by_cases hi : inC e2 k'
     ·rcases hxe k' (hinX k' hi (by omega)) with he | ⟨o'',ho''⟩
      ·exact absurd he hx
      ·have h3:=hc.sh.own (k',o'') (List.mem_append.2 (.inr ho''))
       have h4:=hdrop.own (k',o'') (List.mem_cons_of_mem _ (List.mem_append.2 (.inr ho'')))
       simp only at h3 h4
       rw [hk1] at h3; cases h3; exact h4
     ·exact hdk k' o' hk2 hc1 hi
    have hgw:=hgd.step (a':=a) rfl hstep (by simp; omega)
    obtain ⟨Ds,d1,d2,d3,d4⟩:=hgw.marks
    have hDn : w.heap.size∉Ds:=by
     intro hm
     obtain ⟨Ds',e1,_,_,e4⟩:=hgd.marks
     have : Ds=Ds':=by
      have:=d1.symm.trans e1
      have hinj : ∀ x y,Eng.mark x=Eng.mark y→x=y:=by intro x y h; simpa [Eng.mark] using h
      exact (List.map_inj_right hinj).1 this
     subst this
     have:=(Array.getElem?_eq_some_iff.1 (e4 _ hm).2.2).1
     omega
    refine ⟨hgw.dk,hgw.size,hgw.exlt,⟨w.heap.size::Ds,by simp [d1],(fun h=>by rw [hmr] at h; cases h),List.nodup_cons.2 ⟨hDn,d3⟩,fun D hm=>?_⟩,hgw.rnd⟩
    rcases List.mem_cons.1 hm with rfl | hm
    ·refine ⟨hgd.size,fun e=>?_,(World.putObj_heap_other (by omega)).trans hD⟩
     have:=hgd.exlt _ e
     have:=hgd.size
     omega
    ·exact d4 D hm
   ·have hC2 : inC e2 L:=(hin2 L).2 ⟨by omega,.inl rfl⟩
    have h5:=(hdrop.putC (o':=.loop { rec (if j.isNone then .ready else .done) j with state:=.exhausted }) hC2).tail (f:=[(L,.loop { rec (if j.isNone then .ready else .done) j with state:=.exhausted })])
    have h6 : SH X.e (W.putObj L (.loop { rec (if j.isNone then .ready else .done) j with state:=.exhausted })) m' (φ1.flatten++X.F) :=
     h5.at_e heo.1.symm heo.2.1.symm heo.2.2.symm (fun p hp hpc=>hinX _ (h5.noctl p hp hpc) (hnL p hp)) (by have:=hc.sh.esz; simp; omega)
    refine ⟨hc.mle.trans hm',fun i h hi=>hp1 i h ?_,hn1,hn2,fun t a ht=>?_,fun i h f h1 h2=>(ho1 i h f h1 h2).mono hm0 (fun _ _ h=>h),h6⟩
    ·have hi1:=(List.getElem?_eq_some_iff.1 hi).1
     rw [hρk,List.getElem?_take,if_pos (by omega)]
     exact hc.pre i h hi
    ·obtain ⟨v,g1,g2⟩:=hsl t a ht
     exact ⟨v,g1,RepA.mono hm' hp1 a g2⟩
  cases o with
  | inl s1 =>
   have hg2 : gsr L (.loop (rec .ready none)) (gst m ρk (H s1) n) m0 fG:=by rw [hG] at hg1; exact hg1
   obtain ⟨W',h1,h2,m5,ρ5,φ5,h3⟩:=hend none (H s1) n hg2
   exact ⟨none,W',h1,fr,hholds,h2,_,m5,ρ5,φ5,h3,hdone s1 hK⟩
  | inr r =>
   have hg2 : ∃ c,jumpOf (ek r)=some c∧gsr L (.loop (rec .done (some c))) (gst m ρk (Hx r) (nx r)) m0 fG:=by rw [hGx] at hg1; exact hg1
   obtain ⟨c,hj,hg3⟩:=hg2
   obtain ⟨W',h1,h2,m5,ρ5,φ5,h3⟩:=hend (some c) (Hx r) (nx r) hg3
   have hq:=hstop r hK
   refine ⟨some c,W',h1,?_⟩
   cases hr : ek r with
   | ret=>rw [hr] at hj hq; simp [jumpOf] at hj; subst hj; exact wpIn_ret ⟨fr,hholds,h2,_,m5,ρ5,φ5,h3,hq⟩
   | exit id=>rw [hr] at hj hq; simp [jumpOf] at hj; subst hj; exact wpIn_exit ⟨fr,hholds,h2,_,m5,ρ5,φ5,h3,hq⟩
   | _=>rw [hr] at hj; simp [jumpOf] at hj
theorem awc_rangeX {σ α R:Type}{gx:Operand}{ps:List Nat}{assign body:Code}{gf:Nat}{caps:List AV}(caps1:List AV) (H1:List AO) (k:Nat) (q:σ→α→Option (σ ⊕ R)) (enc:α→List AV) (l:AFr) (H:σ→AH) (Hx:R→AH) (ek:R→Exit) (n:Nat) (nx:R→Nat) (σc:List Nat){H0:AH}{s0:σ}{o:σ ⊕ R}
  (hro:N.ro=none) (hmr:N.mr=true) (hxe:HX N.ex X) (hg:aev l gx=some (.fn gf [] caps)) (hE:Enters P gf) (hcaps:renL (n::σc) caps1=caps) (hpn:(ps.all fun p=>Nat.blt p N.n)=true) (hps:∀ x,Nat.beq (enc x).length ps.length=true)
  (hk:Nat.ble k n=true) (hkX:Nat.ble X.ρ.length k=true) (hcl:l.map (fun p=>renA (List.range k) p.2)=l.map (·.2))
  (hσ:(zCn σc&&σc.all fun i=>Nat.blt i n)=true) (hH1:σc.map H0.get=H1.map (AO.ren (n::σc)))
  (hH0:(List.range n).map (H s0).get=(List.range n).map fun i=>bif σc.contains i then AO.dead else H0.get i)
  (hit:∀ (L:Nat) (G:σ→Mem→Frag→Prop) (Gx:R→Mem→Frag→Prop),(∀ s x s',q s x=some (.inl s')→zDk P L (enc x) true (G s) (G s'))→(∀ s x r,q s x=some (.inr r)→zDk P L (enc x) false (G s) (Gx r)) →
   RunsX X.m P gf (.yld L::caps1) (.guest (G s0)::H1) fun rs H'=>rs=[]∧∃ Hc,H'=.guest (Sum.elim G Gx o)::Hc)
  (hbody:∀ (w0:World) (L:Nat) (X2:Cx) (ex:Nat→Prop),X.m.le X2.m→X2.ρ.length=k→HX ex X2→∀ s x s',q s x=some s'→AWC P ⟨N.n,some L,w0,ex,false⟩ X2 assign (fun e st1=>e=.normal∧∀ (w0:World) (X2:Cx) (ex:Nat→Prop),X.m.le X2.m→X2.ρ.length=k→HX ex X2 →
   AWC P ⟨N.n,some L,w0,ex,false⟩ X2 body (rangeQ X2 H Hx ek n nx s') st1) ⟨zipA l ps (enc x),H s,n⟩)
  (hek:∀ r,(jumpOf (ek r)).isSome=true)
  (hdone:∀ s1,o=.inl s1→Q .normal ⟨l,H s1,n⟩) (hstop:∀ r,o=.inr r→Q (ek r) ⟨l,Hx r,nx r⟩) : AWC P N X (.rangeFunc gx ps.toArray assign body) Q ⟨l,H0,n⟩ :=
 awc_rangeXK (K:=fun o'=>o'=o) caps1 H1 k q enc l H Hx ek n nx σc hro hmr hxe hg hE hcaps hpn hps hk hkX hcl hσ hH1 hH0 (fun L G Gx h1 h2=>(hit L G Gx h1 h2).mono fun rs H' h=>⟨o,rfl,h⟩) hbody hek (fun s1 h=>hdone s1 h.symm) (fun r h=>hstop r h.symm)
end
theorem ranged {P:Program}{n L:Nat}{X:Cx}{k:Nat}{body:Code}{Q:Cx→zBa}{st:AS}(h:∀ (w0:World) (X2:Cx) (ex:Nat→Prop),X.m.le X2.m→X2.ρ.length=k→HX ex X2→AWC P ⟨n,some L,w0,ex,false⟩ X2 body (Q X2) st) :
  (fun (e:Exit) (st1:AS)=>e=.normal∧∀ (w0:World) (X2:Cx) (ex:Nat→Prop),X.m.le X2.m→X2.ρ.length=k→HX ex X2→AWC P ⟨n,some L,w0,ex,false⟩ X2 body (Q X2) st1) .normal st:=⟨rfl,h⟩
theorem ret_i {P:Program}{X:Cx}{k n:Nat}{st:AS}{l':AFr}{Hs:AH}{p:Mem→Frag→Prop}{Hc:List AO}(h:Wk X st ⟨l',Hs,n⟩) (hH:(List.range n).map (AH.get Hs)=.guest p::Hc) (hk:Nat.ble k n=true) : retW P X [] k (fun q Hq=>q=[]∧∃ Hc,Hq=.guest p::Hc) .ret st :=
 ⟨⟨l',Hs,n⟩,h,[],_,trivial,rfl,hk,rfl,Hc,hH⟩
end Go.Ab
namespace Go.Ab
open Go.RowKit Go.Shelf Go.Proofs Go.Eng

section
variable {P:Program} {N:Ev} {X:Cx} {Q:zBa} {st:AS}
variable {d:Nat} {T U T':TypeId} {pos:String} {aft:Array Edge} {g:Option (Nat×Bool)} {x y:Operand}

theorem zBq {E n:Nat}{t:Ty}{ps:List (Nat×Operand)}{qs:List (Nat×List AV)}{zs cs:List AV}{ys:List t.den}{K:AS→Prop}(hT:BuildS P T E t) (hx:evas st.l ps=qs.map some) (hz:((List.replicate n (zeroV t)).flatten).map ofV1=zs) (hl:layA (fun i=>some (i * t.cells,t.cells)) zs qs=some cs) (hy:(ys.map (expl t)).flatten=cs) (hn:Nat.beq ys.length n=true) (hc:Nat.ble (n * t.cells) 16777216=true) (hc1:Nat.ble n 16777216=true) (hno:(ys.all fun y=>t.fit y)=true)
  (k:K (st.new d (.osl st.n) (.sl E t ys))) (hN:Nat.blt d N.n=true:=by rfl) :
  AOp P N X ⟨some d,.buildSlice T n ps.toArray,U,pos,aft,g⟩ K st :=
 zBH fun Q fr w m ρ φ hcc K' hK=>by
 obtain ⟨vs,h1,h2,h3⟩:=hcc.evs hx
 have hzl:=zCF (w:=w) (ps:=vs.toArray) hT hc (us:=#[])
 have hz' : ∀ (l:List Value),RepL m ρ (l.map ofV1) l:=by
  intro l
  induction l with
  | nil=>simp [RepL]
  | cons v l ih=>simp only [List.map_cons,RepL]; exact ⟨rep_ofV1 m ρ v,ih⟩
 obtain ⟨zz,hzz,_⟩:=hzl
 obtain ⟨us,h6,h7,h8⟩:=lay_fill (us:=zz) hl h2 h3 (by rw [← hz,hzz]; exact hz' _) (by
  rw [hzz]; intro u hu
  obtain ⟨r,hr,hur⟩:=List.mem_flatten.1 hu
  rw [List.eq_of_mem_replicate hr] at hur
  exact zeroV_one t u hur)
 obtain ⟨zz',hzz',hrun⟩:=zCF (w:=w) (ps:=vs.toArray) hT hc (us:=us)
 have hzeq : zz'=zz:=Array.toList_inj.1 (hzz'.trans hzz.symm)
 subst hzeq
 have hr:=hrun (by simpa using h6)
 have hn':=Nat.eq_of_beq_eq_true hn
 refine zAo (v:=.slice (some ⟨w.heap.size,0,none⟩) n n) rfl hN (fun s hs=>?_) ?_ (dk_new (zBh w (.cells us E)))
 ·have e:=evos_eval hs h1
  simp only [execOp,List.map_toArray,Sem.run_bind]
  rw [show (List.map (fun (x:Nat×Operand)=>match x with | (i,x)=>(i,s.eval x)) ps)=vs from e,hr]
  rfl
 ·have hs:=hcc.sh.alloc (zBh w (.cells us E)) rfl
  have hrows : zBo m t ys us.toList:=by rw [← hy] at h7; exact rows_of_expl hno h7
  have h47 : zC8=140737488355328:=rfl
  have hc1':=Nat.le_of_ble_eq_true hc1
  have hlen:=hrows.len
  refine hK _ _ _ _ _ _ (hcc.newObj (h:=.slice (some ⟨w.heap.size,0,none⟩) n n) (f:=[(w.heap.size,.cells us E)]) (Mem.le_refl _) hs ?_ ?_) k
  ·refine ⟨by omega,.inr ⟨w.heap.size,n,us,us.toList,by rw [hn'],rfl,by omega,by simp only [maxLen]; omega,by rw [← hn',← hlen]; simp,hrows,by rw [← hlen,List.take_length]⟩⟩
  ·simp only [RepA]
   exact ⟨by rw [← hcc.nρ]; simp,rfl⟩
end
end Go.Ab
namespace Go.Ab
open Go.RowKit Go.Shelf Go.Proofs Go.Eng

structure Enc1 (t:Ty) (enc:t.den→Value) : Prop where
 one : t.cells=1
 rc : ∀ m x,RC m t x [enc x]
 uniq : ∀ m x vs,RC m t x vs→vs=[enc x]

theorem enc_int (k:IntKind) : Enc1 (.int k) (fun (x:Int)=>Value.int k x):=⟨rfl,fun m x=>rfl,fun m x vs h=>h⟩
theorem rows_enc {m:Mem}{t:Ty}{enc:t.den→Value}(hE:Enc1 t enc){xs:List t.den}{vs:List Value}(h:zBo m t xs vs) : vs=xs.map enc:=by
 obtain ⟨us,h1,rfl,h3⟩:=h
 have : us=xs.map fun x=>[enc x]:=by
  apply List.ext_getElem?
  intro i
  rw [List.getElem?_map]
  rcases Nat.lt_or_ge i xs.length with hi | hi
  ·rw [List.getElem?_eq_getElem hi,List.getElem?_eq_getElem (by omega),Option.map_some,hE.uniq m _ _ (h3 i _ _ (List.getElem?_eq_getElem hi) (List.getElem?_eq_getElem (by omega)))]
  ·rw [List.getElem?_eq_none hi,List.getElem?_eq_none (by omega)]; rfl
 rw [this]
 clear this h1 h3
 induction xs with
 | nil=>rfl
 | cons x xs ih=>simp [ih]
theorem enc_rows {m:Mem}{t:Ty}{enc:t.den→Value}(hE:Enc1 t enc) (xs:List t.den) : zBo m t xs (xs.map enc):=by
 refine ⟨xs.map fun x=>[enc x],by simp,?_,fun i y u hy hu=>?_⟩
 ·induction xs with
  | nil=>rfl
  | cons x xs ih=>simp [ih]
 ·rw [List.getElem?_map,hy] at hu
  cases hu
  exact hE.rc m y

theorem row_put {t:Ty}{enc:t.den→Value} [Inhabited t.den] (hE:Enc1 t enc){e w:World}{m:Mem}{F:Frag}{b c E:Nat}{cs:Array Value}{xs ys:List t.den}(hs:SH e w m ((b,.cells cs E (0,0))::F)) (hc:xs.length≤c) (hz:cs.size=c * t.cells) (hr:zBo m t xs (cs.toList.take (xs.length * t.cells))) (hl:ys.length=xs.length) :
  Sort.Holds enc w b 0 xs.toArray∧b < w.heap.size∧∀ n os,∃ cs',cs'.size=cs.size∧zBo m t ys (cs'.toList.take (xs.length * t.cells))∧(∀ j,xs.length≤j→cs'[j]?=cs[j]?)∧SH e (Sort.grow (Sort.putRow enc (Sort.ahead w n) b 0 ys.toArray) os) m ((b,.cells cs' E (0,0))::F)∧DK nox w (Sort.grow (Sort.putRow enc (Sort.ahead w n) b 0 ys.toArray) os):=by
 have h1:=hE.one
 rw [h1,Nat.mul_one] at hz hr ⊢
 have hb:=hs.own (b,.cells cs E (0,0)) (by simp)
 simp only at hb
 have hbl:=(Array.getElem?_eq_some_iff.1 hb).1
 have hv:=rows_enc hE hr
 refine ⟨fun j hj=>?_,hbl,fun n os=>?_⟩
 ·have hj' : j < xs.length:=by simpa using hj
  refine ⟨?_,?_⟩
  ·simp only [World.cell?,hb,Nat.zero_add]
   have h2:=congrArg (fun l=>l[j]?) hv
   simp only [List.getElem?_take,hj',if_true,List.getElem?_map,List.getElem?_eq_getElem hj',Option.map_some] at h2
   rw [getElem!_pos _ j hj]
   simpa using h2
  ·simp [World.frozen?,hb]
 ·obtain ⟨w1,hw1⟩ : ∃ w1,w1=Sort.putRow enc (Sort.ahead w n) b 0 ys.toArray:=⟨_,rfl⟩
  have hget : ∀ k,w1.heap[k]?=if b=k then (w.heap[k]?).map (Sort.onCells (Sort.putCells enc 0 ys.toArray)) else w.heap[k]?:=by
   intro k
   rw [hw1]
   simp only [Sort.putRow,Sort.mapBlock,Sort.ahead,Array.getElem?_modify]
  have hP : Put w w1 b:=by
   refine ⟨by rw [hw1]; rfl,by rw [hw1]; rfl,by rw [hw1]; rfl,by rw [hw1]; simp [Sort.putRow,Sort.mapBlock,Sort.ahead],fun k hk=>?_⟩
   rw [hget,if_neg (fun e=>hk e.symm)]
  have hb1 : w1.heap[b]?=some (.cells (Sort.putCells enc 0 ys.toArray cs) E (0,0)):=by
   rw [hget,if_pos rfl,hb]; rfl
  have hs1:=hs.put hP hb1 rfl
  have hBl : Below w1.heap.size w1 (Sort.grow w1 os):=⟨rfl,rfl,rfl,by simp,fun k hk=>Sort.heap_grow_old w1 os hk⟩
  rw [← hw1]
  have hsz : (Sort.putCells enc 0 ys.toArray cs).size=cs.size:=by simp [Sort.putCells]
  refine ⟨_,hsz,?_,fun j hj=>?_,hs1.ext hBl,?_⟩
  ·have : (Sort.putCells enc 0 ys.toArray cs).toList.take xs.length=ys.map enc:=by
    apply List.ext_getElem?
    intro j
    rw [List.getElem?_take]
    rcases Nat.lt_or_ge j xs.length with hj | hj
    ·have hjc : j < cs.size:=by omega
     have hjy : j < ys.length:=by omega
     have hyj : ys[j]?=some (ys[j]'hjy):=List.getElem?_eq_getElem hjy
     rw [if_pos hj,List.getElem?_map,hyj,Option.map_some]
     have h9 : (Sort.putCells enc 0 ys.toArray cs)[j]?=some (enc (ys[j]'hjy)):=by
      simp only [Sort.putCells,Array.getElem?_mapIdx,Array.getElem?_eq_getElem hjc,Option.map_some,Nat.zero_le,true_and,Nat.zero_add,Nat.sub_zero,List.size_toArray,hjy,if_true]
      rw [getElem!_pos _ j (by simpa using hjy)]
      simp
     simpa using h9
    ·have hj2 : ys.length≤j:=by omega
     rw [if_neg (by omega),List.getElem?_map,List.getElem?_eq_none hj2]; rfl
   rw [this]
   exact enc_rows hE ys
  ·simp only [Sort.putCells,Array.getElem?_mapIdx,Nat.zero_le,true_and,Nat.zero_add,List.size_toArray,show ¬ j < ys.length by omega,if_false]
   cases cs[j]? <;> rfl
  ·intro k o hk hcx _
   have hkl:=(Array.getElem?_eq_some_iff.1 hk).1
   rw [Sort.heap_grow_old w1 os (by rw [hP.size]; exact hkl),hget]
   split
   ·rename_i e'; subst e'; rw [hb] at hk; cases hk; cases hcx
   ·exact hk

theorem RepL.osl0 {m:Mem}{h:Value}{vs:List Value}(H:RepL m [h] [.osl 0] vs) : vs=[h]:=by
 cases vs with
 | nil=>simp [RepL] at H
 | cons v vs=>cases vs with
  | nil=>simp [RepL,RepA] at H; rw [H.1]
  | cons=>simp [RepL] at H
theorem zCl.one {m:Mem}{ρ:List Value}{o:AO}{φ:List Frag}(H:zCl m ρ [o] φ) : ∃ h f,ρ=[h]∧φ=[f]∧ORep m ρ o h f:=by
 have h1:=H.nρ
 have h2:=H.nφ
 match ρ,φ,h1,h2 with
 | [h],[f],_,_=>exact ⟨h,f,rfl,rfl,H.at_ 0 o h f rfl rfl rfl⟩

theorem runs_row {P:Program}{f:FuncId}{t:Ty}{enc:t.den→Value} [Inhabited t.den] (hE:Enc1 t enc){E:Nat}{xs ys:List t.den}(hl:ys.length=xs.length)
  (hS:∀ (b cap:Nat) (w:World),Sort.Holds enc w b 0 xs.toArray→b < w.heap.size→xs.length≤cap→Calls P f #[.slice (some ⟨b,0,none⟩) xs.length cap] w fun e w'=>e=.returned (.tuple #[])∧∃ n os,w'=Sort.grow (Sort.putRow enc (Sort.ahead w n) b 0 ys.toArray) os)
  (h0:∀ w,Calls P f #[.slice none 0 0] w fun e w'=>e=.returned (.tuple #[])∧w'=w) : Runs P f [.osl 0] [.sl E t xs] fun q Hq=>q=[]∧Hq=[.sl E t ys]:=by
 intro e w m ρ φ F vs hv ho hs
 obtain ⟨h,fr,rfl,rfl,ho1⟩:=ho.one
 have:=hv.osl0
 subst this
 obtain ⟨q0,ho2 | ho2⟩:=ho1
 ·obtain ⟨rfl,rfl,rfl⟩:=ho2
  have : ys=[]:=List.eq_nil_of_length_eq_zero hl
  subst this
  refine Calls.mono (h0 w) ?_
  rintro e' w' ⟨rfl,rfl⟩
  exact ⟨_,rfl,⟨DK.refl,Nat.le_refl _⟩,_,_,m,_,_,⟨rfl,rfl⟩,Mem.le_refl _,fun i h hi=>hi,Nat.le_refl _,⟨rfl,rfl,fun i o h f hi hh hf=>by
   cases i with
   | zero=>simp at hi hh hf; subst hi hh hf; exact ⟨by simp,.inl ⟨rfl,rfl,rfl⟩⟩
   | succ i=>simp at hi⟩,hs,[],by simp [RepL],rfl⟩
 ·obtain ⟨b,c,cs,us,rfl,rfl,q1,q2,q3,q4,q5⟩:=ho2
  have hs' : SH e w m ((b,.cells cs E (0,0))::F):=by simpa using hs
  obtain ⟨g1,g2,g3⟩:=row_put hE hs' q1 q3 (by rw [q5]; exact q4) hl
  refine Calls.mono (hS b c w g1 g2 q1) ?_
  rintro e' w' ⟨rfl,n,os,rfl⟩
  obtain ⟨cs',k1,k2,k3,k4,k5⟩:=g3 n os
  have hsz : w.heap.size≤(Sort.grow (Sort.putRow enc (Sort.ahead w n) b 0 ys.toArray) os).heap.size:=by simp [Sort.putRow,Sort.mapBlock,Sort.ahead]
  refine ⟨_,rfl,⟨k5,hsz⟩,_,_,m,[.slice (some ⟨b,0,none⟩) xs.length c],[[(b,.cells cs' E (0,0))]],⟨rfl,rfl⟩,Mem.le_refl _,fun i h hi=>hi,Nat.le_refl _,⟨rfl,rfl,fun i o h f hi hh hf=>?_⟩,by simpa using k4,[],by simp [RepL],rfl⟩
  cases i with
  | zero =>
   simp at hi hh hf; subst hi hh hf
   exact ⟨by omega,.inr ⟨b,c,cs',_,by rw [hl],rfl,by omega,q2,by rw [k1]; exact q3,by rw [← hl] at k2; exact k2,rfl⟩⟩
  | succ i=>simp at hi

end Go.Ab
namespace Go.Eng
open Go.RowKit Go.Shelf Go.Proofs

section
variable {P:Program} {N:Ev} {Q:Post} {l:Fr} {w:World}
def lateB (ops:List Oper) (i t:Nat) : Bool:=(ops.zipIdx).all fun (o,k)=>o.dst.isNone||(!Nat.beq (dstOf o) t||(Nat.beq k i||o.after.toList.any fun e=>Region.binds .any e&&Nat.beq e.on i))
def ObsX (P:Program) (N:Ev) (S:World→World→Prop) (ops:List Oper) (Φ:List VP) (Q:Post) (w:World) : List Oper→List VP→List (List Nat)→List Fr→Prop
 | o::os,φ::φs,js::jss,b::bs=>(∀ W,S w W→zBp (depAt ops Φ js) b W fun l=>OpG P N S ops o φ Q l W)∧ObsX P N S ops Φ Q w os φs jss bs
 | _,_,_,_=>True
theorem ObsX.at {S:World→World→Prop}{ops:List Oper}{Φ:List VP}{os:List Oper} : ∀ {φs:List VP}{jss:List (List Nat)}{bs:List Fr},ObsX P N S ops Φ Q w os φs jss bs→∀ {i:Nat}{o:Oper}{φ:VP}{js:List Nat}{b:Fr},os[i]?=some o→φs[i]?=some φ→jss[i]?=some js→bs[i]?=some b →
  ∀ W,S w W→zBp (depAt ops Φ js) b W fun l=>OpG P N S ops o φ Q l W:=by
 induction os with
 | nil=>intro φs jss bs _ i o φ js b h; simp at h
 | cons o' os ih =>
  intro φs jss bs h i o φ js b h1 h2 h3 h4
  cases φs with
  | nil=>simp at h2
  | cons φ' φs =>
   cases jss with
   | nil=>simp at h3
   | cons js' jss =>
    cases bs with
    | nil=>simp at h4
    | cons b' bs =>
    cases i with
    | zero=>simp at h1 h2 h3 h4; subst h1 h2 h3 h4; exact h.1
    | succ i=>simp at h1 h2 h3 h4; exact ih h.2 h1 h2 h3 h4
theorem ObsX.drawn {S:World→World→Prop}(hS:SR S){ops:List Oper}{Φ:List VP}{os:List Oper} : ∀ {φs:List VP}{jss:List (List Nat)}{bs:List Fr},ObsX P N S ops Φ Q w os φs jss bs→ObsX P N S ops Φ Q { w with drawn:=w.drawn+1 } os φs jss bs:=by
 induction os with
 | nil=>intro φs jss bs _; trivial
 | cons o os ih =>
  intro φs jss bs h
  cases φs with
  | nil=>trivial
  | cons φ φs =>
   cases jss with
   | nil=>trivial
   | cons js jss =>
    cases bs with
    | nil=>trivial
    | cons b bs=>exact ⟨fun W hW=>h.1 W (hS.drawn _ _ hW),ih h.2⟩
end
end Go.Eng
namespace Go
section
variable {P:Program} {b:Frame} {a:Act} {k:List Item} {cs:List Frame} {w:World} {Q:Exit→Act→World→Prop} {F:Fence} {n:Nat}
end
end Go
namespace Go.Ab
open Go.RowKit Go.Shelf Go.Proofs Go.Eng
end Go.Ab
namespace Go.Ab
open Go.RowKit Go.Shelf Go.Proofs Go.Eng
section
variable {P:Program} {N:Ev} {X:Cx} {Q:zBa} {st:AS}
theorem wk_ownC {i o:Nat}{T:TypeId}{cs:List AV}(E:TypeId) (ty:Ty) (hH:st.H.get i=.var T cs) (hi:Nat.blt i st.n=true) (ho:cs[o]?=some .nils) : Wk X st ⟨st.l,(i,.var T (cs.set o (.osl st.n)))::(st.n,.sl E ty [])::st.H,st.n+1⟩:=by
 intro fr w m ρ φ hc
 have hin : i < st.n:=by simpa using hi
 have h3:=hc.newObj (d:=0) (av:=.any) (v:=undef) (h:=.slice none 0 0) (o:=.sl E ty []) (f:=[]) (Mem.le_refl _) (by simpa using hc.sh) ⟨by simp,.inl ⟨rfl,rfl,rfl⟩⟩ (by simp only [RepA])
 refine ⟨m,_,_,h3.mle,h3.pre,h3.nρ,h3.nφ,?_,?_,h3.sh⟩
 ·intro q a hq
  obtain ⟨v,g1,g2⟩:=hc.slots q a hq
  exact ⟨v,g1,RepA.mono (Mem.le_refl _) pre_app a g2⟩
 ·intro j hd f hj hf
  rw [AH.get_cons]
  split
  ·rename_i e
   subst e
   have h4:=h3.objs i hd f hj hf
   have h5 : (AS.new st 0 .any (.sl E ty [])).H.get i=.var T cs:=by
    show AH.get ((st.n,_)::st.H) i=_
    rw [AH.get_cons,if_neg (by omega)]; exact hH
   rw [h5] at h4
   obtain ⟨b,us,g1,g2,g3,g4⟩:=h4
   refine ⟨b,us,g1,g2,?_,g4⟩
   obtain ⟨u,hu,hr⟩:=g3.get ho
   simp only [RepA] at hr
   subst hr
   have h6:=g3.set (i:=o) (a:=.osl st.n) (v:=.slice none 0 0) (by simp only [RepA]; exact ⟨by rw [← hc.nρ]; simp,rfl⟩)
   have h7 : us.set o (.slice none 0 0)=us:=by
    apply List.ext_getElem?
    intro q
    rw [List.getElem?_set]
    split
    ·rename_i e; subst e; rw [hu]; simp [(List.getElem?_eq_some_iff.1 hu).1]
    ·rfl
   rw [h7] at h6
   exact h6
  ·exact h3.objs j hd f hj hf
end
end Go.Ab
namespace Go.Ab
open Go.RowKit Go.Shelf Go.Proofs Go.Eng

theorem RowsO.set {m:Mem}{T:TypeId}{t:Ty}{y:List t.den}{r:Value}{g:Frag} : ∀ {x:List (List t.den)}{rs:List Value}{fs:List Frag}{k:Nat},RowsO m T t x rs fs→SlRep m T t y r g→RowsO m T t (x.set k y) (rs.set k r) (fs.set k g):=by
 intro x
 induction x with
 | nil=>intro rs fs k h _; cases rs with
  | nil=>cases fs with
   | nil=>trivial
   | cons=>exact h.elim
  | cons=>exact h.elim
 | cons z x ih=>intro rs fs k h hy; cases rs with
  | nil=>exact h.elim
  | cons r' rs=>cases fs with
   | nil=>exact h.elim
   | cons f fs=>cases k with
    | zero=>exact ⟨hy,h.2⟩
    | succ k=>exact ⟨h.1,ih h.2 hy⟩

section
variable {P:Program} {N:Ev} {X:Cx} {Q:zBa} {st:AS}
variable {d:Nat} {T U T':TypeId} {pos:String} {aft:Array Edge} {g:Option (Nat×Bool)} {x y:Operand} {k ky:IntKind} {a b:Int}

section
variable {m:Mem} {ρ ρ':List Value} {i:Nat} {h:Value} {rs rs':List Value}
end

end
end Go.Ab
namespace Go.Eng
open Go.RowKit Go.Shelf Go.Proofs Go.ChangeShapes Go.WideShapes

def BK : Type:=Option (Option IntKind)
def BK.is (k:BK) (v:Value) : Prop:=match k with
 | some (some k)=>∃ z,v=.int k z∧(Lit.int k z).wf=true
 | some none=>∃ z : ByteArray,v=.string z∧z.size≤maxLen
 | none=>∃ z,v=.bool z
section
variable {H:Type} {enc:TypeId×Value→H} {P:Program} {w:World} {base:Nat} {sp:Nat→Bool} {held:Bool} {n:Nat}
end
end Go.Eng
namespace Go.Ab
open Go.RowKit Go.Shelf Go.Proofs Go.Eng

theorem sh_law (W:World) : SH W W (allM W []) []:=⟨rfl,rfl,rfl,fun b o hb=>(of_allM hb).1,fun p hp=>by simp at hp,by simp,fun p hp=>by simp at hp,fun p hp=>by simp at hp,fun b o hb=>(of_allM hb).2,Nat.le_refl _⟩
theorem law_calls {P:Program}{f:FuncId}{args:List AV}{W:World}{vs:List Value}{r:Bool}(h:zBb P f args [.bool r]) (hv:RepL (allM W []) [] args vs) : Ret P f vs.toArray W fun v W'=>v=.bool r∧Below W.heap.size W W':=by
 have:=h W W (allM W []) [] [] [] vs hv ⟨rfl,rfl,fun i o h f hi=>by simp at hi⟩ (by simpa using sh_law W)
 refine Calls.mono this ?_
 rintro e w' ⟨v,he,hd,rs',H',m',ρ',φ',⟨rfl,rfl⟩,hm,_,_,ho,hs,us,hu,rfl⟩
 have hφ : φ'=[]:=List.eq_nil_of_length_eq_zero ho.nφ
 subst hφ
 have h1:=zBM hu
 simp only [tupA,RepA] at h1
 exact ⟨_,he,hd,h1,zDq (sh_law W) (by simpa using hs) hm hd.2 hd.1⟩
end Go.Ab
namespace Go.Ab
open Go.RowKit Go.Shelf Go.Proofs Go.Eng Go.ChangeShapes Go.WideShapes

mutual
inductive TyOf (P:Program) : Ty→TypeId→Prop
 | int {k:IntKind} {T:TypeId} : P.underlying T=some (.int k)→TyOf P (.int k) T
 | bool {T:TypeId} : P.underlying T=some .bool→TyOf P .bool T
 | str {T:TypeId} : P.underlying T=some .string→TyOf P .str T
 | slice {e:Ty} {T E:TypeId} : P.underlying T=some (.slice E)→P.cellsOf E=e.cells→Nat.blt 0 e.cells=true→Nat.blt 0 (P.bytesOf E)=true→TyOf P e E→TyOf P (.slice e) T
 | st {a:Ty} {T:TypeId} {fs:Array Field} : P.underlying T=some (.struct fs)→P.cellsOf T=a.cells→FdOf P a (fs.toList.map fun f=>(f.type,f.offset)) 0→TyOf P (.st a) T
 | ar {a:Ty} {T E:TypeId} {n:Nat} : P.underlying T=some (.array n E)→P.cellsOf T=a.cells→FdOf P a ((List.range n).map fun i=>(E,i * P.cellsOf E)) 0→TyOf P (.st a) T
inductive FdOf (P:Program) : Ty→List (TypeId×Nat)→Nat→Prop
 | unit {o:Nat} : FdOf P .unit [] o
 | one {a:Ty} {T:TypeId} {o:Nat} : P.cellsOf T=a.cells→TyOf P a T→FdOf P a [(T,o)] o
 | cons {a b:Ty} {T:TypeId} {o:Nat} {q:TypeId×Nat} {r:List (TypeId×Nat)} : P.cellsOf T=a.cells→TyOf P a T→FdOf P b (q::r) (o+a.cells)→FdOf P (.pair a b) ((T,o)::q::r) o
end

def WF : (t:Ty)→t.den→Prop
 | .int k,x=>(Lit.int k x).wf=true
 | .bool,_=>True
 | .str,x=>x.length≤reachBytes
 | .unit,_=>True
 | .pair a b,x=>WF a x.1∧WF b x.2
 | .st a,x=>WF a x
 | .slice e,(x:List e.den)=>x.length≤reachBytes∧∀ y∈x,WF e y
 | .arr _ e,(x:List e.den)=>∀ y∈x,WF e y
 | .raw _,_=>True
 | .map _ _,_=>True
 | .ptr _,_=>True

section
variable {H:Type} {enc:TypeId×Value→H} {P:Program} {w:World} {held:Bool}

theorem cells_at {a:Addr}{base k:Nat}{cs:List Value}(h:w.cells? base a k=some cs) (hk:0 < k) : a.spot=none∧zCQ (allM w []) a.block a.off cs:=by
 obtain ⟨_,h5,h6⟩:=World.cells?_some h
 obtain ⟨b,o,sp⟩:=a
 have hspot : sp=none:=by
  have g7:=h6 0 hk
  rw [List.getElem?_eq_getElem (by omega)] at g7
  simpa [Addr.add] using World.cell?_spot g7
 subst hspot
 refine ⟨rfl,fun j v hj=>?_⟩
 have hjl:=(List.getElem?_eq_some_iff.1 hj).1
 have h1:=h6 j (by omega)
 rw [hj,zCu] at h1
 unfold World.cell? at h1
 simp only at h1
 split at h1
 ·rename_i cs T fr hb
  exact ⟨cs,T,fr,allM_nil hb rfl,h1⟩
 ·cases h1

mutual
theorem dec_ty : ∀ {t:Ty}{T:TypeId},TyOf P t T→∀ {n:Nat}{cs:List Value}{y:DataW H×List MemPlace},DataW.trod enc P w 0 (fun _=>true) held n T cs=some y→(∀ k∈y.1.weights P T,k≤reachBytes)→∃ x : t.den,WF t x∧RC (allM w []) t x cs
 | _,_,.int hu,n,cs,y,h,hz=>by
  obtain ⟨z,rfl,_,hw⟩:=DataW.trod_int hu h
  exact ⟨z,hw,rfl⟩
 | _,_,.bool hu,n,cs,y,h,hz=>by
  obtain ⟨z,rfl,_⟩:=DataW.trod_bool hu h
  exact ⟨z,trivial,rfl⟩
 | _,_,.str hu,n,cs,y,h,hz=>by
  obtain ⟨z,rfl,rfl,hw⟩:=DataW.trod_string hu h
  refine ⟨z.data.toList,hz _ (by simp [DataW.weights]),?_⟩
  show [Value.string z]=[.string (bstr z.data.toList)]
  rw [bstr_data]
 | .slice e,T,.slice (E:=E) hu hc h0 hB he,n,cs,y,h,hz=>by
  have h0' : 0 < e.cells:=by simpa using h0
  have hB' : 0 < P.bytesOf E:=by simpa using hB
  rcases Deep.open_slice hu h with ⟨rfl,rfl⟩ | ⟨a,len,cap,m,n',D,Pl,rfl,_,hl,hm,hmm,rfl,hall⟩
  ·exact ⟨([] : List e.den),⟨Nat.zero_le _,fun y hy=>by cases hy⟩,⟨none,0,0,rfl,rfl,Nat.le_refl _,Nat.zero_le _,0,0,fun h=>absurd h (by omega),fun i y hy=>by simp at hy⟩⟩
  ·rw [if_pos rfl] at hmm
   subst hmm
   have hwt : ∀ k,k∈(DataW.slice ((List.range len).map D) ((List.range (m - len)).map fun j=>D (len+j))).weights P T→k≤reachBytes:=hz
   have hlen : len≤reachBytes:=by
    have:=hwt ((((List.range len).map D).length+((List.range (m - len)).map fun j=>D (len+j)).length) * P.bytesOf E) (by simp [DataW.weights,hu])
    simp only [List.length_map,List.length_range] at this
    have z2:=Nat.le_trans (Nat.le_mul_of_pos_right _ hB') this
    omega
   have hin : ∀ i,i < len→∀ k∈(D i).weights P E,k≤reachBytes:=by
    intro i hi k hk
    refine hwt k ?_
    simp only [DataW.weights,hu,List.mem_cons,List.mem_append]
    refine .inr (.inl ?_)
    have : ∀ {l:List (DataW H)} {d:DataW H},d∈l→k∈d.weights P E→k∈DataW.weightsAll P E l:=by
     intro l
     induction l with
     | nil=>intro d hd; cases hd
     | cons c l ih =>
      intro d hd hk
      rw [DataW.weightsAll,List.mem_append]
      rcases List.mem_cons.1 hd with rfl | hd
      ·exact .inl hk
      ·exact .inr (ih hd hk)
    exact this (List.mem_map.2 ⟨i,List.mem_range.2 hi,rfl⟩) hk
   rw [hc] at hall
   have hrow : ∀ i,i < len→∃ x : e.den,∃ us,WF e x∧RC (allM w []) e x us∧a.spot=none∧zCQ (allM w []) a.block (a.off+i * e.cells) us:=by
    intro i hi
    obtain ⟨us,h1,h2⟩:=hall i (by omega)
    obtain ⟨x,hx1,hx2⟩:=dec_ty he h2 (hin i hi)
    obtain ⟨s0,_⟩ : a.spot=none∧True:=by
     obtain ⟨u0,g1,_⟩:=hall 0 (by omega)
     have:=(cells_at g1 h0').1
     refine ⟨?_,trivial⟩
     simpa [Addr.add] using this
    obtain ⟨b0,o0,sp⟩:=a
    simp only at s0
    subst s0
    rw [zCu] at h1
    have:=(cells_at h1 h0').2
    exact ⟨x,us,hx1,hx2,rfl,this⟩
   have hne : ∀ i,i < len→Nonempty e.den:=fun i hi=>let ⟨x,_⟩:=hrow i hi; ⟨x⟩
   by_cases hz0 : len=0
   ·subst hz0
    exact ⟨([] : List e.den),⟨Nat.zero_le _,fun y hy=>by cases hy⟩,⟨some a,0,m,rfl,rfl,Nat.zero_le _,Nat.zero_le _,0,0,fun h=>absurd h (by omega),fun i y hy=>by simp at hy⟩⟩
   ·obtain ⟨x0⟩:=hne 0 (by omega)
    haveI : Inhabited e.den:=⟨x0⟩
    obtain ⟨X,hX⟩:=Deep.choose_lt hrow
    have hspot : a.spot=none:=by obtain ⟨_,_,_,h,_⟩:=hX 0 (by omega); exact h
    refine ⟨(List.range len).map X,⟨by simpa using hlen,fun y hy=>?_⟩,⟨some a,len,m,rfl,by simp,hl,by have:=reachBytes_lt; show len≤140737488355328; omega,a.block,a.off,fun _=>?_,fun i y hy=>?_⟩⟩
    ·obtain ⟨i,hi,rfl⟩:=List.mem_map.1 hy
     obtain ⟨_,h1,_⟩:=hX i (List.mem_range.1 hi)
     exact h1
    ·obtain ⟨b0,o0,sp⟩:=a
     simp only at hspot
     subst hspot; rfl
    ·have hil : i < len:=by have:=(List.getElem?_eq_some_iff.1 hy).1; simpa using this
     obtain ⟨us,_,h2,_,h3⟩:=hX i hil
     have : y=X i:=by
      rw [List.getElem?_map,List.getElem?_range hil] at hy
      exact (Option.some.inj hy).symm
     subst this
     exact ⟨us,h2,h3⟩
 | .st a,T,.st (fs:=fs) hu hc hf,n,cs,y,h,hz=>by
  obtain ⟨xs,m,_,rfl,hl,hxl,hall⟩:=DataW.trod_struct hu h
  have:=dec_fd hf (n:=m) (cs:=cs) (xs:=xs) (by simpa using hxl) (by rw [hl,hc]; omega) (fun i q hi=>by
   rw [List.getElem?_map] at hi
   cases hfi : fs.toList[i]? with
   | none=>rw [hfi] at hi; cases hi
   | some f=>rw [hfi] at hi; cases hi; exact hall i f (by simpa using hfi)) (fun k hk=>hz k (by simp only [DataW.weights,hu]; rw [List.map_map] at hk; exact hk))
  rw [List.drop_zero,List.take_of_length_le (by omega)] at this
  exact this
 | .st a,T,.ar (n:=k) (E:=E) hu hc hf,n,cs,y,h,hz=>by
  obtain ⟨xs,m,_,rfl,hl,hxl,hall⟩:=DataW.trod_array hu h
  have hw : ∀ {l:List (DataW H)} {j:Nat},j=l.length→DataW.weightsEach P (((List.range j).map fun i=>(E,i * P.cellsOf E)).map (·.1)) l=DataW.weightsAll P E l:=by
   have : ∀ {l:List (DataW H)} {ts:List TypeId},ts=List.replicate l.length E→DataW.weightsEach P ts l=DataW.weightsAll P E l:=by
    intro l
    induction l with
    | nil=>intro ts h; subst h; simp [DataW.weightsEach,DataW.weightsAll]
    | cons d l ih=>intro ts h; subst h; rw [List.length_cons,List.replicate_succ,DataW.weightsEach,DataW.weightsAll,ih rfl]
   intro l j hj
   refine this ?_
   subst hj
   rw [List.map_map]
   apply List.ext_getElem?
   intro i
   rw [List.getElem?_map,List.getElem?_replicate]
   by_cases hi : i < l.length
   ·rw [List.getElem?_range hi,if_pos hi]; rfl
   ·rw [List.getElem?_eq_none (by simpa using hi),if_neg hi]; rfl
  have:=dec_fd hf (n:=m) (cs:=cs) (xs:=xs) (by simpa using hxl) (by rw [hl,hc]; omega) (fun i q hi=>by
   rw [List.getElem?_map] at hi
   by_cases hik : i < k
   ·rw [List.getElem?_range hik] at hi; cases hi; exact hall i hik
   ·rw [List.getElem?_eq_none (by simpa using hik)] at hi; cases hi) (fun k' hk=>hz k' (by
    rw [hw (by simp [hxl])] at hk
    simp only [DataW.weights,hu]; exact hk))
  rw [List.drop_zero,List.take_of_length_le (by omega)] at this
  exact this
theorem dec_fd : ∀ {a:Ty}{r:List (TypeId×Nat)}{o:Nat},FdOf P a r o→∀ {n:Nat}{cs:List Value}{xs:List (DataW H×List MemPlace)},xs.length=r.length→o+a.cells≤cs.length →
  (∀ (i:Nat) (q:TypeId×Nat),r[i]?=some q→DataW.trod enc P w 0 (fun _=>true) held n q.1 ((cs.drop q.2).take (P.cellsOf q.1))=xs[i]?)→(∀ k∈DataW.weightsEach P (r.map (·.1)) (xs.map (·.1)),k≤reachBytes) →
  ∃ x : a.den,WF a x∧RC (allM w []) a x ((cs.drop o).take a.cells)
 | _,_,_,.unit,n,cs,xs,hl,hc,h,hz=>⟨(),trivial,by simp [RC,Ty.cells]⟩
 | a,_,o,.one (T:=T) hk ht,n,cs,xs,hl,hc,h,hz=>by
  obtain ⟨x,rfl⟩:=List.length_eq_one_iff.1 hl
  have h1:=h 0 _ rfl
  simp only [List.getElem?_cons_zero] at h1
  rw [← hk]
  exact dec_ty ht h1 (fun k hk=>hz k (by simp only [List.map_cons,List.map_nil,DataW.weightsEach,List.mem_append]; exact .inl hk))
 | .pair a b,_,o,.cons (T:=T) (q:=q) (r:=r) hk ht hr,n,cs,xs,hl,hc,h,hz=>by
  cases xs with
  | nil=>simp at hl
  | cons x xs =>
   have h1:=h 0 _ rfl
   simp only [List.getElem?_cons_zero] at h1
   obtain ⟨u,u1,u2⟩:=dec_ty ht h1 (fun k hk=>hz k (by simp only [List.map_cons,DataW.weightsEach,List.mem_append]; exact .inl hk))
   simp only [Ty.cells] at hc
   obtain ⟨v,v1,v2⟩:=dec_fd hr (n:=n) (cs:=cs) (xs:=xs) (by simpa using hl) (by omega) (fun i q hi=>by
    have:=h (i+1) q (by simpa using hi)
    simpa using this) (fun k hk=>hz k (by simp only [List.map_cons,DataW.weightsEach,List.mem_append] at hk ⊢; exact .inr hk))
   refine ⟨(u,v),⟨u1,v1⟩,⟨_,_,?_,u2,v2⟩⟩
   rw [hk]
   simp only [Ty.cells]
   rw [List.take_add,List.drop_drop]
end

theorem fd_cast {a:Ty}{l m:List (TypeId×Nat)}{o:Nat}(h:m=l) (k:FdOf P a l o) : FdOf P a m o:=h ▸ k
theorem arg_ty {t:Ty}{T:TypeId}(ht:TyOf P t T) (hn:t.noArr=true){v:Value}{d:DataW H}{ps:List MemPlace}{r:Reach}{base:Nat}{ts:List TypeId}{ds:List (DataW H)}{j:Nat}
  (hok:Value.okWide P w r base T v) (hsz:(DataW.weightsEach P ts ds).all (·≤reachBytes)=true) (hj:ts[j]?=some T) (hd:ds[j]?=some d)
  (h:DataW.Trod enc P w 0 (fun _=>true) held T v d ps) : ∃ x : t.den,WF t x∧RepA (allM w []) [] (zBx t x) v:=by
 obtain ⟨fuel,hf⟩:=h
 obtain ⟨x,h1,h2⟩:=dec_ty ht hf (fun k hk=>by
  have:=List.all_eq_true.1 hsz _ (DataW.weights_mem_each hj hd k hk)
  simpa using this)
 refine ⟨x,h1,?_⟩
 have one : ∀ {a:AV} {u:Value},v.cells=#[v]→RepL (allM w []) [] [a] v.cells.toList→RepA (allM w []) [] a v:=by
  intro a u hv hr
  rw [hv] at hr
  simp only [RepL,and_true] at hr; exact hr
 have hr:=rc_expl (ρ:=[]) h2
 cases ht with
 | int hu=>obtain ⟨n,rfl⟩:=okWide_int hu hok; simp only [Value.cells,RepL,expl,and_true] at hr; exact hr
 | bool hu=>obtain ⟨n,rfl⟩:=okWide_bool hu hok; simp only [Value.cells,RepL,expl,and_true] at hr; exact hr
 | str hu=>obtain ⟨n,rfl⟩:=okWide_string hu hok; simp only [Value.cells,RepL,expl,and_true] at hr; exact hr
 | slice hu _ _ _ _=>obtain ⟨a,l,c,rfl⟩:=okWide_slice hu hok; simp only [Value.cells,RepL,expl,and_true] at hr; exact hr
 | st hu hc _ =>
  obtain ⟨cs,rfl,_⟩:=okWide_struct hu hok
  simp only [zBx,Ty.agg,if_true,RepA]
  exact ⟨cs.toList,by simp,hr,h2.one⟩
 | ar hu hc _ =>
  simp only [Value.okWide,hu] at hok
  obtain ⟨cs,rfl,_⟩:=hok
  simp only [zBx,Ty.agg,if_true,RepA]
  exact ⟨cs.toList,by simp,hr,h2.one⟩
end
end Go.Ab
namespace Go.Ab
open Go.RowKit Go.Shelf Go.Proofs Go.Eng

section
variable {P:Program} {N:Ev} {K:Fr→World→Prop} {Q:Post} {l:Fr} {w:World}
theorem op_valN {o:Oper}{v:Value}{w':World}(hd:o.dst=none)
  (hrun:∀ a,Holds N l a→(execOp a.eval o).run P w=.ok (.value v) w') (k:K l w')
  (hw:DK N.ex w w'∧w.heap.size≤w'.heap.size:=by exact ⟨DK.refl,Nat.le_refl _⟩) (hf:nodef o=true:=by rfl) : OpW P N o K Q l w:=by
 intro a ha hg
 refine ⟨fun _ _=>trivial,?_⟩
 show o.uponIn (FW N.ro) 0 P a _ _ ((o.semAt N.ro a.eval).run P w)
 rw [zCe hf,hrun a ha,Oper.uponIn_value,hd]
 exact ⟨_,ha,hg.step rfl hw.1 hw.2,k⟩
end
section
variable {P:Program} {N:Ev} {X:Cx} {Q:zBa} {st:AS} {ops:Array Oper} {rest:List Oper}
variable {d T U U':TypeId} {pos pos':String} {aft aft':Array Edge} {x y lo:Operand}
end

end Go.Ab
namespace Go.Ab
open Go.RowKit Go.Shelf Go.Proofs Go.Eng

def Ent3 (m:Mem) (ρ:List Value) (k:Ty) (v:OT) (hs:List (k.den×Nat)) : List (k.den×v.den)→List MapEntry→List Frag→Prop
 | [],[],[]=>True
 | p::x,e::es,g::fs=>EntT m ρ k v hs p e g∧Ent3 m ρ k v hs x es fs
 | _,_,_=>False
section
variable {m:Mem} {ρ:List Value} {k:Ty} {v:OT} {hs hs':List (k.den×Nat)}
theorem ent3_of : ∀ {x:List (k.den×v.den)}{es:List MapEntry}{fs:List Frag},es.length=x.length→fs.length=x.length→(∀ (i:Nat) (p:k.den×v.den) (e:MapEntry) (g:Frag),x[i]?=some p→es[i]?=some e→fs[i]?=some g→EntT m ρ k v hs p e g)→Ent3 m ρ k v hs x es fs:=by
 intro x
 induction x with
 | nil=>intro es fs h1 h2 _; cases es with
  | nil=>cases fs with
   | nil=>trivial
   | cons=>simp at h2
  | cons=>simp at h1
 | cons p x ih=>intro es fs h1 h2 h; cases es with
  | nil=>simp at h1
  | cons e es=>cases fs with
   | nil=>simp at h2
   | cons g fs=>exact ⟨h 0 p e g rfl rfl rfl,ih (by simpa using h1) (by simpa using h2) fun i p e g a b c=>h (i+1) p e g (by simpa using a) (by simpa using b) (by simpa using c)⟩
theorem ent3_get : ∀ {x:List (k.den×v.den)}{es:List MapEntry}{fs:List Frag},Ent3 m ρ k v hs x es fs→es.length=x.length∧fs.length=x.length∧∀ (i:Nat) (p:k.den×v.den) (e:MapEntry) (g:Frag),x[i]?=some p→es[i]?=some e→fs[i]?=some g→EntT m ρ k v hs p e g:=by
 intro x
 induction x with
 | nil=>intro es fs h; cases es with
  | nil=>cases fs with
   | nil=>exact ⟨rfl,rfl,fun i p e g hp=>by simp at hp⟩
   | cons=>exact h.elim
  | cons=>exact h.elim
 | cons p x ih=>intro es fs h; cases es with
  | nil=>exact h.elim
  | cons e es=>cases fs with
   | nil=>exact h.elim
   | cons g fs =>
    obtain ⟨h1,h2,h3⟩:=ih h.2
    refine ⟨by simp [h1],by simp [h2],fun i q u f a b c=>?_⟩
    cases i with
    | zero=>simp at a b c; subst a b c; exact h.1
    | succ i=>exact h3 i q u f (by simpa using a) (by simpa using b) (by simpa using c)
def rawT : Ty:=.raw ⟨.bool false,rfl⟩
theorem raw3 : ∀ {x:List (k.den×v.den)}{es:List MapEntry}{fs:List Frag},Ent3 m ρ k v hs x es fs→∃ xr : List (k.den×rawT.den),EntL m k rawT xr es∧xr.map (·.1)=x.map (·.1)∧∀ (i:Nat) c,xr[i]?=some c→∃ e,es[i]?=some e∧e.val=(c.2 : zDL).1:=by
 intro x
 induction x with
 | nil=>intro es fs h; cases es with
  | nil=>exact ⟨[],trivial,rfl,fun i c h=>by simp at h⟩
  | cons=>exact h.elim
 | cons p x ih=>intro es fs h; cases es with
  | nil=>exact h.elim
  | cons e es=>cases fs with
   | nil=>exact h.elim
   | cons g fs =>
    obtain ⟨xr,h1,h2,h3⟩:=ih h.2
    refine ⟨(p.1,(⟨e.val,h.1.1.2⟩ : zDL))::xr,⟨⟨h.1.1.1,rfl⟩,h1⟩,by simp [h2],fun i c hc=>?_⟩
    cases i with
    | zero=>simp at hc; subst hc; exact ⟨e,rfl,rfl⟩
    | succ i=>simpa using h3 i c (by simpa using hc)
theorem zDd {α β:Type} [DecidableEq α] : ∀ {x:List (α×β)}{z:α},mget x z=none↔z∉x.map (·.1):=by
 intro x z
 induction x with
 | nil=>simp [mget]
 | cons p x ih =>
  simp only [mget,List.map_cons,List.mem_cons,not_or]
  split
  ·rename_i h; simp [h]
  ·rename_i h; simp [ih,h]
theorem mget_first {α β:Type} [DecidableEq α] : ∀ {x:List (α×β)}{z:α}{i:Nat}{y:β},x[i]?=some (z,y)→(∀ j,j < i→(x[j]?).map (·.1)≠some z)→mget x z=some y:=by
 intro x
 induction x with
 | nil=>intro z i y h; simp at h
 | cons p x ih =>
  intro z i y h hj
  cases i with
  | zero=>simp at h; subst h; simp [mget]
  | succ i =>
   have h0:=hj 0 (by omega)
   simp at h0
   simp only [mget,if_neg (fun e:z=p.1=>h0 e.symm)]
   exact ih (by simpa using h) fun j hjj=>by simpa using hj (j+1) (by omega)
theorem find3 {P:Program}{kT:TypeId} [DecidableEq k.den] (hK:KeyT P kT k){x:List (k.den×v.den)}{es:List MapEntry}{fs:List Frag}{kx:k.den}{kv:Value}{w:World}(h:Ent3 m ρ k v hs x es fs) (hk:RV m k kx kv) :
  ∃ r,(Instr.findKey kT kv es).run P w=.ok r w∧match r with
   | none=>kx∉x.map (·.1)
   | some (i,u)=>∃ y e g,x[i]?=some (kx,y)∧es[i]?=some e∧fs[i]?=some g∧e.val=u∧EntT m ρ k v hs (kx,y) e g∧∀ j,j < i→(x[j]?).map (·.1)≠some kx:=by
 obtain ⟨xr,h1,h2,h3⟩:=raw3 h
 obtain ⟨r,h4,h5⟩:=hK.find m kx kv rawT xr es w hk h1
 refine ⟨r,h4,?_⟩
 have hkey : ∀ i : Nat,(xr[i]?).map (fun p=>p.1)=(x[i]?).map (fun p=>p.1):=fun i=>by rw [← List.getElem?_map,← List.getElem?_map,h2]
 cases r with
 | none=>rw [zDd,h2] at h5; exact h5
 | some q =>
  obtain ⟨i,u⟩:=q
  obtain ⟨y,g1,g2,g3,⟨e,g4⟩,g5⟩:=h5
  obtain ⟨c,hc,hck⟩:=Option.map_eq_some_iff.1 g3
  have hcc : xr[i]?=some (kx,c.2):=by rw [hc,← hck]
  have hy:=mget_first hcc g5
  rw [g1] at hy; cases hy
  obtain ⟨e',he',hv⟩:=h3 i c hc
  rw [g4] at he'; cases he'
  have hu : u=(c.2 : zDL).1:=by
   simp only [RV,rawT,Ty.agg,RC] at g2
   simpa using g2
  rw [hkey] at g3
  obtain ⟨p,hp,hpk⟩:=Option.map_eq_some_iff.1 g3
  obtain ⟨l1,l2,l3⟩:=ent3_get h
  have hi:=(List.getElem?_eq_some_iff.1 hp).1
  have hg : fs[i]?=some (fs[i]'(by omega)):=List.getElem?_eq_getElem _
  have hp' : x[i]?=some (kx,p.2):=by rw [hp,← hpk]
  exact ⟨p.2,e,_,hp',g4,hg,by rw [hv,hu],l3 i _ _ _ hp' g4 hg,fun j hj=>by rw [← hkey]; exact g5 j hj⟩
theorem ent_hs {p:k.den×v.den}{e:MapEntry}{g:Frag}(hh:∀ n,(p.1,n)∈hs↔(p.1,n)∈hs') (h:EntT m ρ k v hs p e g) : EntT m ρ k v hs' p e g :=
 ⟨h.1,fun n hn=>h.2.1 n ((hh n).2 hn),fun hn=>h.2.2 fun n hm=>hn n ((hh n).1 hm)⟩
theorem ent3_hs {kx:k.den}(hh:∀ z n,z≠kx→((z,n)∈hs↔(z,n)∈hs')) : ∀ {x:List (k.den×v.den)}{es:List MapEntry}{fs:List Frag},kx∉x.map (·.1)→Ent3 m ρ k v hs x es fs→Ent3 m ρ k v hs' x es fs:=by
 intro x
 induction x with
 | nil=>intro es fs _ h; cases es with
  | nil=>cases fs with
   | nil=>trivial
   | cons=>exact h.elim
  | cons=>exact h.elim
 | cons p x ih=>intro es fs hn h; cases es with
  | nil=>exact h.elim
  | cons e es=>cases fs with
   | nil=>exact h.elim
   | cons g fs =>
    simp only [List.map_cons,List.mem_cons,not_or] at hn
    exact ⟨ent_hs (fun n=>hh _ _ fun e=>hn.1 e.symm) h.1,ih hn.2 h.2⟩
theorem ent3_set [DecidableEq k.den] {kx:k.den}{y:v.den}{g':Frag}(hh:∀ z n,z≠kx→((z,n)∈hs↔(z,n)∈hs')) : ∀ {x:List (k.den×v.den)}{es:List MapEntry}{fs:List Frag}{i:Nat}{e0:MapEntry},Ent3 m ρ k v hs x es fs→(x.map (·.1)).Nodup→(x[i]?).map (·.1)=some kx→es[i]?=some e0→(∀ j,j < i→(x[j]?).map (·.1)≠some kx)→∀ (f:MapEntry→MapEntry),EntT m ρ k v hs' (kx,y) (f e0) g'→Ent3 m ρ k v hs' (mset x kx y) (es.modify i f) (fs.set i g'):=by
 intro x
 induction x with
 | nil=>intro es fs i e0 h _ hi; simp at hi
 | cons p x ih =>
  intro es fs i e0 h hnd hi he hj f hf
  cases es with
  | nil=>exact h.elim
  | cons e es=>cases fs with
   | nil=>exact h.elim
   | cons g fs =>
    rw [List.map_cons,List.nodup_cons] at hnd
    cases i with
    | zero =>
     simp at hi he
     subst he
     simp only [mset,if_pos hi.symm,List.modify_zero_cons,List.set_cons_zero]
     exact ⟨hf,ent3_hs hh (by rw [← hi]; exact hnd.1) h.2⟩
    | succ i =>
     have hne : ¬ kx=p.1:=by
      have:=hj 0 (by omega)
      simp at this
      exact fun e=>this e.symm
     simp only [mset,if_neg hne,List.modify_succ_cons,List.set_cons_succ]
     exact ⟨ent_hs (fun n=>hh _ _ fun e=>hne e.symm) h.1,ih h.2 hnd.2 (by simpa using hi) (by simpa using he) (fun j hjj=>by simpa using hj (j+1) (by omega)) f hf⟩
theorem ent3_push [DecidableEq k.den] {kx:k.den}{y:v.den}{g':Frag}{e':MapEntry}(hh:∀ z n,z≠kx→((z,n)∈hs↔(z,n)∈hs')) (hf:EntT m ρ k v hs' (kx,y) e' g') : ∀ {x:List (k.den×v.den)}{es:List MapEntry}{fs:List Frag},Ent3 m ρ k v hs x es fs→kx∉x.map (·.1)→Ent3 m ρ k v hs' (mset x kx y) (es++[e']) (fs++[g']):=by
 intro x
 induction x with
 | nil=>intro es fs h _; cases es with
  | nil=>cases fs with
   | nil=>exact ⟨hf,trivial⟩
   | cons=>exact h.elim
  | cons=>exact h.elim
 | cons p x ih =>
  intro es fs h hn
  cases es with
  | nil=>exact h.elim
  | cons e es=>cases fs with
   | nil=>exact h.elim
   | cons g fs =>
    simp only [List.map_cons,List.mem_cons,not_or] at hn
    simp only [mset,if_neg hn.1,List.cons_append]
    exact ⟨ent_hs (fun n=>hh _ _ fun e=>hn.1 e.symm) h.1,ih h.2 hn.2⟩
end

def Pk (H:AH) : (v:OT)→v.den→List AV→List Nat→Prop
 | .dat t,x,cs,js=>cs=expl t x∧t.fit x=true∧js=[]
 | .pair a b,x,cs,js=>∃ c d j k,cs=c++d∧js=j++k∧Pk H a x.1 c j∧Pk H b x.2 d k
 | .sl E e,x,cs,js=>match e,x with
  | .dat t,x=>(∃ j,cs=[.osl j]∧H.get j=.sl E t x∧js=[j])∨(cs=[.nils]∧x=[]∧js=[])
  | _,_=>False
 | .mp k e,x,cs,js=>match e,x with
  | .dat t,x=>∃ j,cs=[.map j]∧H.get j=.map k t x∧js=[j]
  | e,x=>∃ j,cs=[.map j]∧H.get j=.mpt k e x []∧js=[j]
 | .pt T e,x,cs,js=>∃ j us l,cs=[.ptr j 0]∧H.get j=.var T us∧js=j::l∧Pk H e x us l
theorem zCG {m:Mem}{ρ:List Value}{a:AV}{vs:List Value}(h:RepL m ρ [a] vs) : ∃ v,vs=[v]∧RepA m ρ a v:=by
 cases vs with
 | nil=>simp [RepL] at h
 | cons v vs=>cases vs with
  | nil=>simp only [RepL,and_true] at h; exact ⟨v,rfl,h⟩
  | cons=>simp [RepL] at h
theorem or_dat {m:Mem}{k t:Ty}{p:k.den×t.den}{e:MapEntry}(h:RV m t p.2 e.val) : ∃ us : List Value,(if (OT.dat t).aggB then e.val=.agg us.toArray else us=[e.val])∧OR m (.dat t) p.2 us []:=by
 unfold RV at h
 cases ha : (OT.dat t).aggB with
 | true=>rw [if_pos (show t.agg=true from ha)] at h; obtain ⟨us,h1,h2⟩:=h; exact ⟨us,by simpa using h1,h2,rfl⟩
 | false=>rw [if_neg (show ¬ t.agg=true from by have : t.agg=false:=ha; simp [this])] at h; exact ⟨[e.val],by simp,h,rfl⟩
theorem pk_or {H:AH}{m:Mem}{ρ:List Value}{φ:List Frag}(hc:∀ (j:Nat) (h:Value),ρ[j]?=some h→ORep m ρ (H.get j) h (φ.getD j [])) : ∀ {v:OT}{x:v.den}{cs:List AV}{js:List Nat}{vs:List Value},Pk H v x cs js→RepL m ρ cs vs→OR m v x vs (js.flatMap fun j=>φ.getD j []):=by
 intro v
 induction v with
 | dat t=>intro x cs js vs h hr; obtain ⟨rfl,h2,rfl⟩:=h; exact ⟨zCY h2 hr,rfl⟩
 | pair a b iha ihb =>
  intro x cs js vs h hr
  obtain ⟨c,d,j,l,rfl,rfl,h3,h4⟩:=h
  obtain ⟨us,ws,rfl,h5,h6⟩:=RepL.split hr
  exact ⟨us,ws,_,_,rfl,List.flatMap_append,iha h3 h5,ihb h4 h6⟩
 | sl E e ih =>
  intro x cs js vs h hr
  cases e with
  | dat t =>
   rcases h with ⟨j,rfl,h2,rfl⟩ | ⟨rfl,rfl,rfl⟩
   ·obtain ⟨u,rfl,hu⟩:=zCG hr
    simp only [RepA] at hu
    have ho:=hc j u hu.1
    rw [h2] at ho
    simp only [List.flatMap_cons,List.flatMap_nil,List.append_nil]
    obtain ⟨h0,⟨g1,g2,g3⟩ | ⟨b,c,arr,ws,g1,g2,g3,g4,g5,⟨us,g6,g7,g8⟩,g9⟩⟩:=ho
    ·exact ⟨h0,.inl ⟨g1,by rw [g2],g3⟩⟩
    ·refine ⟨h0,.inr ⟨b,c,arr,us,List.replicate x.length [],by rw [g1],by rw [g2]; simp,g3,g4,g5,g6,by simp,by rw [← g7]; exact g9,fun i y u g a1 a2 a3=>⟨g8 i y u a1 a2,?_⟩⟩⟩
     exact List.eq_of_mem_replicate (List.mem_of_getElem? a3)
   ·obtain ⟨u,rfl,hu⟩:=zCG hr
    simp only [RepA] at hu
    subst hu
    exact ⟨by simp,.inl ⟨rfl,rfl,rfl⟩⟩
  | sl=>exact h.elim
  | mp=>exact h.elim
  | pt=>exact h.elim
  | pair=>exact h.elim
 | mp k e ih =>
  intro x cs js vs h hr
  have hmpt : ∀ (e:OT) (x:List (k.den×e.den)) (j:Nat),H.get j=.mpt k e x []→RepL m ρ [.map j] vs→OR m (.mp k e) x vs (([j] : List Nat).flatMap fun j=>φ.getD j []):=by
   intro e x j h2 hr
   obtain ⟨u,rfl,hu⟩:=zCG hr
   simp only [RepA] at hu
   have ho:=hc j u hu.1
   rw [h2] at ho
   simp only [List.flatMap_cons,List.flatMap_nil,List.append_nil]
   obtain ⟨h0,_,x',hp,b,es,cl,fs,g1,g2,g3,g4,g5,g6⟩:=ho
   refine ⟨x',hp,b,es,cl,fs,by rw [g1],g2,g3,g4,g5,fun i p e' g a1 a2 a3=>?_⟩
   obtain ⟨c1,c2,c3⟩:=g6 i p e' g a1 a2 a3
   refine ⟨c1.1,[e'.val],?_,c3 fun n hn=>by simp at hn⟩
   cases e <;> simp_all [OT.node,OT.aggB]
  cases e with
  | dat t =>
   obtain ⟨j,rfl,h2,rfl⟩:=h
   obtain ⟨u,rfl,hu⟩:=zCG hr
   simp only [RepA] at hu
   have ho:=hc j u hu.1
   rw [h2] at ho
   simp only [List.flatMap_cons,List.flatMap_nil,List.append_nil]
   obtain ⟨x',hp,b,es,cl,g1,g2,g3,g4,gB,g5⟩:=ho
   refine ⟨x',hp,b,es,cl,List.replicate x'.length [],by rw [g1],by rw [g2]; simp,g3,by simp,⟨g4,gB⟩,fun i p e g a1 a2 a3=>?_⟩
   obtain ⟨c1,c2⟩:=g5 i p e a1 a2
   have hg:=List.eq_of_mem_replicate (List.mem_of_getElem? a3)
   subst hg
   exact ⟨c1,or_dat c2⟩
  | sl E e=>obtain ⟨j,rfl,h2,rfl⟩:=h; exact hmpt _ x j h2 hr
  | mp k' e=>obtain ⟨j,rfl,h2,rfl⟩:=h; exact hmpt _ x j h2 hr
  | pt T e=>obtain ⟨j,rfl,h2,rfl⟩:=h; exact hmpt _ x j h2 hr
  | pair a b=>obtain ⟨j,rfl,h2,rfl⟩:=h; exact hmpt _ x j h2 hr
 | pt T e ih =>
  intro x cs js vs h hr
  obtain ⟨j,us,l,rfl,h2,rfl,h4⟩:=h
  obtain ⟨u,rfl,hu⟩:=zCG hr
  simp only [RepA] at hu
  obtain ⟨b,hb,rfl⟩:=hu
  have ho:=hc j _ hb
  rw [h2] at ho
  obtain ⟨b',ws,g1,g2,g3,g4⟩:=ho
  cases g1
  refine ⟨b,ws,_,rfl,?_,g4,ih h4 g3⟩
  rw [List.flatMap_cons,g2]; rfl
end Go.Ab
namespace Go.Ab
open Go.RowKit Go.Shelf Go.Proofs Go.Eng

section
variable {P:Program} {N:Ev} {X:Cx} {Q:zBa} {st:AS}
variable {d:Nat} {T U T':TypeId} {pos:String} {aft:Array Edge} {g:Option (Nat×Bool)} {x y z:Operand}

theorem Conc.re {fr:Fr}{w w':World}{m m':Mem}{ρ:List Value}{φ:List Frag}(hc:Conc X st fr w m ρ φ) (hm:m.le m'){H':AH}{ρ2:List Value}{φ1 φ2:List Frag}(h1:φ1.length=φ.length) (h2:φ2.length=ρ2.length) (ho:∀ (q:Nat) (h:Value) (f:Frag),ρ[q]?=some h→φ1[q]?=some f→ORep m' (ρ++ρ2) (H'.get q) h f) (ho2:∀ (q:Nat) (h:Value) (f:Frag),ρ2[q]?=some h→φ2[q]?=some f→ORep m' (ρ++ρ2) (H'.get (st.n+q)) h f) (hs:SH X.e w' m' (φ1.flatten++φ2.flatten++X.F)) :
  Conc X ⟨st.l,H',st.n+ρ2.length⟩ fr w' m' (ρ++ρ2) (φ1++φ2):=by
 have hpre : ∀ (i:Nat) (h:Value),ρ[i]?=some h→(ρ++ρ2)[i]?=some h:=fun i h hi=>by
  rw [List.getElem?_append_left (List.getElem?_eq_some_iff.1 hi).1]; exact hi
 refine ⟨hc.mle.trans hm,fun i h hi=>hpre i h (hc.pre i h hi),by simp [hc.nρ],by simp [h1,h2,hc.nφ],?_,?_,?_⟩
 ·intro t a ha
  obtain ⟨u,q1,q2⟩:=hc.slots t a ha
  exact ⟨u,q1,RepA.mono hm hpre a q2⟩
 ·intro i h f hi hf
  rcases Nat.lt_or_ge i ρ.length with hl | hl
  ·rw [List.getElem?_append_left hl] at hi
   rw [List.getElem?_append_left (by rw [h1,hc.nφ,← hc.nρ]; exact hl)] at hf
   exact ho i h f hi hf
  ·rw [List.getElem?_append_right hl] at hi
   rw [List.getElem?_append_right (by rw [h1,hc.nφ,← hc.nρ]; exact hl)] at hf
   rw [show φ1.length=ρ.length by rw [h1,hc.nφ,hc.nρ]] at hf
   have:=ho2 (i - ρ.length) h f hi hf
   rw [show st.n+(i - ρ.length)=i by rw [← hc.nρ]; omega] at this
   exact this
 ·rw [List.flatten_append]; exact hs

def killF : List Frag→List Nat→List Frag
 | φ,[]=>φ
 | φ,j::js=>killF (φ.set j []) js
def killH (js:List Nat) (H:AH) : AH:=js.foldr (fun j H=>(j,.dead)::H) H
theorem killH_get {H:AH} : ∀ {js:List Nat}{q:Nat},(killH js H).get q=if q∈js then .dead else H.get q:=by
 intro js
 induction js with
 | nil=>intro q; simp [killH]
 | cons j js ih =>
  intro q
  have : killH (j::js) H=(j,.dead)::killH js H:=rfl
  rw [this,AH.get_cons,ih]
  by_cases h : j=q
  ·simp [h]
  ·have h' : ¬ q=j:=fun e=>h e.symm
   simp [h,h']
theorem killF_len : ∀ {js:List Nat}{φ:List Frag},(killF φ js).length=φ.length:=by
 intro js
 induction js with
 | nil=>intro φ; rfl
 | cons j js ih=>intro φ; simp [killF,ih]
theorem killF_get : ∀ {js:List Nat}{φ:List Frag}{q:Nat}{f:Frag},(killF φ js)[q]?=some f→(q∈js∧f=[])∨(q∉js∧φ[q]?=some f):=by
 intro js
 induction js with
 | nil=>intro φ q f h; exact .inr ⟨by simp,h⟩
 | cons j js ih =>
  intro φ q f h
  rcases ih h with ⟨h1,h2⟩ | ⟨h1,h2⟩
  ·exact .inl ⟨by simp [h1],h2⟩
  ·by_cases e : j=q
   ·subst e
    have hl:=(List.getElem?_eq_some_iff.1 h2).1
    rw [List.getElem?_set_self (by simpa using hl)] at h2
    cases h2; exact .inl ⟨by simp,rfl⟩
   ·rw [List.getElem?_set_ne e] at h2
    exact .inr ⟨by simp [h1]; exact fun h=>e h.symm,h2⟩
theorem killF_perm : ∀ {js:List Nat}{φ:List Frag},js.Nodup→(∀ j∈js,j < φ.length)→φ.flatten.Perm ((js.flatMap fun j=>φ.getD j [])++(killF φ js).flatten):=by
 intro js
 induction js with
 | nil=>intro φ _ _; simp [killF]
 | cons j js ih =>
  intro φ hnd hl
  rw [List.nodup_cons] at hnd
  have hj:=hl j (by simp)
  have hg : φ[j]?=some (φ.getD j []):=by rw [List.getD_eq_getElem?_getD,List.getElem?_eq_getElem hj]; rfl
  have h1:=zBl hg []
  have h2:=ih (φ:=φ.set j []) hnd.2 (fun q hq=>by simpa using hl q (by simp [hq]))
  have h3 : (js.flatMap fun q=>(φ.set j []).getD q [])=js.flatMap fun q=>φ.getD q []:=by
   rw [List.flatMap_def,List.flatMap_def]
   congr 1
   apply List.map_congr_left
   intro q hq
   rw [List.getD_eq_getElem?_getD,List.getD_eq_getElem?_getD,List.getElem?_set_ne (fun e:j=q=>hnd.1 (by rw [e]; exact hq))]
  rw [h3] at h2
  refine h1.1.trans ?_
  rw [List.flatMap_cons,List.append_assoc]
  refine List.Perm.append_left _ ?_
  have h4:=h1.2
  rw [List.nil_append] at h4
  exact h4.symm.trans h2

theorem or_one {m:Mem}{v:OT}{y:v.den}{u:Value}{f:Frag}(hn:v.node=true) (h:OR m v y [u] f) : u.oneCell'=true:=by
 cases v with
 | dat=>simp [OT.node] at hn
 | pair=>simp [OT.node] at hn
 | sl E e =>
  obtain ⟨_,⟨_,h1,_⟩ | ⟨b,c,_,_,_,h1,_⟩⟩:=h
  ·cases h1; rfl
  ·cases h1; rfl
 | mp k v=>obtain ⟨_,_,b,_,_,_,h1,_⟩:=h; cases h1; rfl
 | pt T e=>obtain ⟨b,_,_,h1,_⟩:=h; cases h1; rfl

theorem own_mpt {fr:Fr}{w:World}{m:Mem}{ρ:List Value}{φ:List Frag}(hc:Conc X st fr w m ρ φ){i:Nat}{k:Ty}{v:OT}{xs:List (k.den×v.den)}{hs:List (k.den×Nat)}{u:Value}(hv:RepA m ρ (.map i) u) (hH:st.H.get i=.mpt k v xs hs) :
  v.node=true∧(∀ q∈hs,HoleOk ρ (xs.map (·.1)) q)∧∃ xs',xs'.Perm xs∧∃ b es cl fs,u=.map (some b)∧ρ[i]?=some (.map (some b))∧φ[i]?=some ((b,.map es cl)::fs.flatten)∧w.heap[b]?=some (.map es cl)∧Ent3 m ρ k v hs xs' es.toList fs∧((xs'.map (·.1)).Nodup∧zCP es cl):=by
 simp only [RepA] at hv
 obtain ⟨f,hf,ho,hw⟩:=hc.obj hv.1
 rw [hH] at ho
 obtain ⟨h0,h00,xs',hp,b,es,cl,fs,rfl,rfl,h1,h2,h3,h4⟩:=ho
 exact ⟨h0,h00,xs',hp,b,es,cl,fs,rfl,hv.1,hf,hw (b,_) (by simp),ent3_of h1 h2 h4,h3⟩

theorem run_lookup3 {w:World}{m:Mem}{ρ:List Value}{k:Ty}{v:OT} [DecidableEq k.den] {xs:List (k.den×v.den)}{hs:List (k.den×Nat)}{kx:k.den}{kT eT b cl:Nat}{es:Array MapEntry}{fs:List Frag}{kv zv:Value}{ok:Bool}(hU:Und P T (.map kT eT)) (hK:KeyT P kT k) (hZ:Eng.Zero P eT zv) (hw:w.heap[b]?=some (.map es cl)) (he:Ent3 m ρ k v hs xs es.toList fs) (hk:RV m k kx kv) :
  ∃ u,(Instr.lookup T (.map (some b)) kv ok).run P w=.ok (if ok then .tuple #[u,.bool (mget xs kx).isSome] else u) w∧((mget xs kx=none∧u=zv)∨∃ (i:Nat) (y:v.den) (e:MapEntry) (g:Frag),mget xs kx=some y∧xs[i]?=some (kx,y)∧e.val=u∧EntT m ρ k v hs (kx,y) e g):=by
 obtain ⟨r,h1,h2⟩:=find3 hK (w:=w) he hk
 have h3:=hK.chk m kx kv es.isEmpty w hk
 cases r with
 | none =>
  have hn:=zDd.2 h2
  refine ⟨zv,?_,.inl ⟨hn,rfl⟩⟩
  rw [hn]
  simp only [Instr.lookup,Sem.run_bind,run_underlying hU,Result.andThen_ok,zCA hw,h3,h1,hZ w,Sem.run_pure]
  cases ok <;> simp
 | some q =>
  obtain ⟨q,u⟩:=q
  obtain ⟨y,e,g,g1,g2,g3,g4,g5,g6⟩:=h2
  have hy:=mget_first g1 g6
  refine ⟨u,?_,.inr ⟨q,y,e,g,hy,g1,g4,g5⟩⟩
  rw [hy]
  simp only [Instr.lookup,Sem.run_bind,run_underlying hU,Result.andThen_ok,zCA hw,h3,h1,Sem.run_pure]
  cases ok <;> simp

theorem av_look_own {i n kT eT:Nat}{k:Ty}{v:OT} [DecidableEq k.den] {xs:List (k.den×v.den)}{hs:List (k.den×Nat)}{kx:k.den}{yx:v.den}{zv:Value}{ok:Bool}{av r:AV}(hU:Und P T (.map kT eT)) (hK:KeyT P kT k) (hZ:Eng.Zero P eT zv) (hx:aev st.l x=some (.map i)) (hy:aev st.l y=some (zBx k kx)) (hH:st.H.get i=.mpt k v xs hs) (hno:k.noArr=true) (hm:(kx,n)∈hs) (hg:mget xs kx=some yx)
  (hav:av=.map n∨(∃ T1 cs,av=.ptr n 0∧st.H.get n=.var T1 cs)) (hr:(if ok then .tup [av,.bool true] else av)=r) (hN:Nat.blt d N.n=true:=by rfl) :
  AOpV P N X ⟨some d,.lookup T x y ok,U,pos,aft,g⟩ r st :=
 zA6 rfl fun Q fr w m ρ φ hc=>by
  subst hr
  obtain ⟨v,h1,h2⟩:=hc.ev hx
  obtain ⟨u,h3,h4⟩:=hc.ev hy
  obtain ⟨_,hho,xs',hp,b,es,cl,fs,rfl,_,_,h5,h6,hn',_⟩:=own_mpt hc h2 hH
  obtain ⟨q,h7,h8⟩:=run_lookup3 (ok:=ok) hU hK hZ h5 h6 (zCm (fit_noArr hno) h4)
  have hq : RepA m ρ av q:=by
   rcases h8 with ⟨h9,rfl⟩ | ⟨p,yy,ee,gg,h9,_,rfl,h10⟩
   ·rw [zDV hp hn',hg] at h9; cases h9
   ·have hn:=(h10.2.1 n hm).2
    rcases hav with rfl | ⟨T1,cs,rfl,h11⟩
    ·simp only [RepA]; exact ⟨hn,h10.1.2⟩
    ·obtain ⟨f,_,ho,_⟩:=hc.obj hn
     rw [h11] at ho
     obtain ⟨b',us,h12,_⟩:=ho
     simp only [RepA]
     exact ⟨b',by rw [← h12]; exact hn,h12⟩
  rw [zDV hp hn',hg] at h7
  refine ⟨if ok then .tuple #[q,.bool true] else q,?_,fun K hk=>zAo rfl hN (fun ac ha=>?_) hk⟩
  ·cases ok
   ·simpa using hq
   ·simp only [if_true,RepA]; exact ⟨[q,.bool true],rfl,by simp only [RepL]; exact ⟨hq,zAx,trivial⟩⟩
  ·simp only [execOp,ha.eval h1,ha.eval h3]
   rw [Sem.run_bind,h7]; rfl
theorem av_look_no {i kT eT:Nat}{k:Ty}{v:OT} [DecidableEq k.den] {xs:List (k.den×v.den)}{hs:List (k.den×Nat)}{kx:k.den}{zv:Value}{ok:Bool}{r:AV}(hU:Und P T (.map kT eT)) (hK:KeyT P kT k) (hZ:Eng.Zero P eT zv) (hx:aev st.l x=some (.map i)) (hy:aev st.l y=some (zBx k kx)) (hH:st.H.get i=.mpt k v xs hs) (hno:k.noArr=true) (hg:mget xs kx=none)
  (hr:(if ok then .tup [ofV zv,.bool false] else ofV zv)=r) (hN:Nat.blt d N.n=true:=by rfl) :
  AOpV P N X ⟨some d,.lookup T x y ok,U,pos,aft,g⟩ r st :=
 zA6 rfl fun Q fr w m ρ φ hc=>by
  subst hr
  obtain ⟨v,h1,h2⟩:=hc.ev hx
  obtain ⟨u,h3,h4⟩:=hc.ev hy
  obtain ⟨_,hho,xs',hp,b,es,cl,fs,rfl,_,_,h5,h6,hn',_⟩:=own_mpt hc h2 hH
  obtain ⟨q,h7,h8⟩:=run_lookup3 (ok:=ok) hU hK hZ h5 h6 (zCm (fit_noArr hno) h4)
  rcases h8 with ⟨_,rfl⟩ | ⟨p,yy,ee,gg,h9,_⟩
  ·rw [zDV hp hn',hg] at h7
   refine ⟨if ok then .tuple #[q,.bool false] else q,?_,fun K hk=>zAo rfl hN (fun ac ha=>?_) hk⟩
   ·cases ok
    ·simpa using rep_ofV m ρ q
    ·simp only [if_true,RepA]; exact ⟨[q,.bool false],rfl,by simp only [RepL]; exact ⟨rep_ofV m ρ q,zAx,trivial⟩⟩
   ·simp only [execOp,ha.eval h1,ha.eval h3]
    rw [Sem.run_bind,h7]; rfl
  ·rw [zDV hp hn',hg] at h9; cases h9
theorem av_len_mpt {i kT eT:Nat}{k:Ty}{v:OT}{xs:List (k.den×v.den)}{hs:List (k.den×Nat)}{ts:Array TypeId}{cl:Array Operand}(hc:cl=#[x]) (ht:ts=#[T]) (hU:Und P T (.map kT eT)) (hx:aev st.l x=some (.map i)) (hH:st.H.get i=.mpt k v xs hs) (hN:Nat.blt d N.n=true:=by rfl) :
  AOpV P N X ⟨some d,.call ⟨.builtin .len,cl,ts⟩,U,pos,aft,g⟩ (.int .i64 (xs.length : Int)) st :=
 zA6 rfl fun Q fr w m ρ φ hcc=>by
  obtain ⟨v,h1,h2⟩:=hcc.ev hx
  obtain ⟨_,_,xs',hp,b,es,cl',fs,rfl,_,_,h5,h6,_⟩:=own_mpt hcc h2 hH
  have hl:=(ent3_get h6).1
  refine ⟨_,zBK,fun K hk=>zAo rfl hN (fun ac ha=>?_) hk⟩
  subst hc ht
  have : es.size=xs.length:=by rw [← hp.length_eq]; simpa using hl
  simp [execOp,resolve,invoke,builtin,Builtin.len_,ha.eval h1,run_underlying hU,zCA h5,goInt,this]
theorem wk_mpt {i:Nat}{tk tv:Ty}(v:OT) (hH:st.H.get i=.map tk tv []) (hv:v.node=true) : Wk X st (st.upd i (.mpt tk v [] [])):=by
 intro fr w m ρ φ hc
 by_cases hi : i < st.n
 ·obtain ⟨h,hh⟩ : ∃ h,ρ[i]?=some h:=⟨_,List.getElem?_eq_getElem (by rw [hc.nρ]; exact hi)⟩
  obtain ⟨f,hf,ho,_⟩:=hc.obj hh
  rw [hH] at ho
  obtain ⟨x',hp,b,es,cl,rfl,rfl,h1,h2,h3⟩:=ho
  obtain rfl:=hp.eq_nil
  have hl : es.toList.length=0:=by simpa using h1
  exact ⟨m,ρ,_,hc.turn hh hf (f':=[(b,.map es cl)]) (hc.front hf) ⟨hv,fun q hq=>by simp at hq,[],List.Perm.refl _,b,es,cl,[],rfl,rfl,by simpa using hl,rfl,⟨by simp,h3.1⟩,fun i p e g hp=>by simp at hp⟩⟩
 ·refine ⟨m,ρ,φ,hc.mle,hc.pre,hc.nρ,hc.nφ,hc.slots,?_,hc.sh⟩
  intro j h f hj hf
  have : j < ρ.length:=(List.getElem?_eq_some_iff.1 hj).1
  simp only [AS.upd,AH.get_cons]
  rw [if_neg (by rw [hc.nρ] at this; omega)]
  exact hc.objs j h f hj hf
end
end Go.Ab
namespace Go.Ab
open Go.RowKit Go.Shelf Go.Proofs Go.Eng

def HolesTo {κ:Type}(kx:κ) (hs hs':List (κ×Nat)) : Prop:=(∀ z n,z≠kx→((z,n)∈hs↔(z,n)∈hs'))∧∀ n,(kx,n)∉hs'
theorem holes0 {κ:Type}{kx:κ} : HolesTo kx [] []:=⟨fun z n _=>Iff.rfl,fun n h=>by simp at h⟩
theorem holes1 {κ:Type}{kx:κ}{n:Nat} : HolesTo kx [(kx,n)] []:=⟨fun z n' h=>by simp; exact fun e=>absurd e h,fun n h=>by simp at h⟩

theorem mset_keys_sub {α β:Type} [DecidableEq α] {x:List (α×β)}{k:α}{v:β}{z:α}(h:z∉(mset x k v).map (·.1)) : z∉x.map (·.1):=by
 rw [mset_keys] at h
 split at h
 ·exact h
 ·simp only [List.mem_append,not_or] at h; exact h.1

section
variable {P:Program} {N:Ev} {X:Cx} {Q:zBa} {st:AS}
variable {d:Nat} {T U T':TypeId} {pos:String} {aft:Array Edge} {g:Option (Nat×Bool)} {x y z:Operand}

theorem Conc.fall {fr:Fr}{w w':World}{m:Mem}{ρ:List Value}{φ:List Frag}(hc:Conc X st fr w m ρ φ){i:Nat}{js:List Nat}{h:Value}{f':Frag}{o:AO}(hnd:(i::js).Nodup) (hl:∀ j∈js,j < st.n) (hi:ρ[i]?=some h) (ho:ORep m ρ o h f')
  (hs:SH X.e w' m (f'++((killF φ (i::js)).flatten++X.F))) : Conc X ⟨st.l,(i,o)::killH js st.H,st.n⟩ fr w' m ρ ((killF φ (i::js)).set i f'):=by
 have hil : i < φ.length:=by rw [hc.nφ,← hc.nρ]; exact (List.getElem?_eq_some_iff.1 hi).1
 have h1:=Conc.re hc (Mem.le_refl m) (H':=(i,o)::killH js st.H) (ρ2:=[]) (φ1:=(killF φ (i::js)).set i f') (φ2:=[]) (w':=w') (by simp [killF_len]) rfl ?_ (by intro q h f hq; simp at hq) ?_
 ·simpa using h1
 ·intro q hq f h2 h3
  rw [List.append_nil]
  rw [AH.get_cons]
  by_cases e : i=q
  ·subst e
   rw [if_pos rfl]
   rw [hi] at h2; cases h2
   rw [List.getElem?_set_self (by simpa [killF_len] using hil)] at h3
   cases h3; exact ho
  ·rw [if_neg e,killH_get]
   rw [List.getElem?_set_ne e] at h3
   rcases killF_get h3 with ⟨h4,rfl⟩ | ⟨h4,h5⟩
   ·have : q∈js:=by
     rcases List.mem_cons.1 h4 with h6 | h6
     ·exact absurd h6.symm e
     ·exact h6
    rw [if_pos this]; rfl
   ·rw [if_neg (fun h6=>h4 (List.mem_cons.2 (.inr h6)))]
    exact hc.objs q hq f h2 h5
 ·rw [List.flatten_nil,List.append_nil]
  refine hs.perm ?_
  rw [← List.append_assoc]
  refine List.Perm.append_right _ ?_
  have hg : (killF φ (i::js))[i]?=some []:=by
   have : (killF φ (i::js))[i]?=some ((killF φ (i::js))[i]'(by simpa [killF_len] using hil)):=List.getElem?_eq_getElem _
   rcases killF_get this with ⟨_,h5⟩ | ⟨h4,_⟩
   ·rw [this,h5]
   ·exact absurd (List.mem_cons.2 (.inl rfl)) h4
  have h7:=zBl hg f'
  have h8:=h7.1
  rw [List.nil_append] at h8
  exact (h8.append_left f').trans h7.2.symm

theorem Conc.before {fr:Fr}{w:World}{m:Mem}{ρ:List Value}{φ:List Frag}(hc:Conc X st fr w m ρ φ){js:List Nat}(hnd:js.Nodup) (hl:∀ j∈js,j < st.n) : SH X.e w m ((js.flatMap fun j=>φ.getD j [])++((killF φ js).flatten++X.F)):=by
 refine hc.sh.perm ?_
 rw [← List.append_assoc]
 exact (killF_perm hnd (fun j hj=>by rw [hc.nφ]; exact hl j hj)).append_right _
theorem Conc.objD {fr:Fr}{w:World}{m:Mem}{ρ:List Value}{φ:List Frag}(hc:Conc X st fr w m ρ φ) : ∀ (j:Nat) (h:Value),ρ[j]?=some h→ORep m ρ (st.H.get j) h (φ.getD j []):=by
 intro j h hj
 obtain ⟨f,hf,ho,_⟩:=hc.obj hj
 rw [List.getD_eq_getElem?_getD,hf]; exact ho

theorem run_mapUpdate3 {w:World}{m:Mem}{ρ:List Value}{k:Ty}{v:OT} [DecidableEq k.den] {xs:List (k.den×v.den)}{hs hs':List (k.den×Nat)}{kx:k.den}{yx:v.den}{kT eT b cl:Nat}{es:Array MapEntry}{fs:List Frag}{kv vv:Value}{G:Frag}(hU:Und P T (.map kT eT)) (hK:KeyT P kT k) (hw:w.heap[b]?=some (.map es cl)) (he:Ent3 m ρ k v hs xs es.toList fs) (hnd:(xs.map (·.1)).Nodup) (hk:RV m k kx kv) (hv:v.node=true) (hor:OR m v yx [vv] G) (hh:HolesTo kx hs hs') :
  ∃ es' cl' fs' g0,(Instr.mapUpdate T (.map (some b)) kv vv).run P w=.ok () { w with heap:=w.heap.setIfInBounds b (.map es' cl') }∧Ent3 m ρ k v hs' (mset xs kx yx) es'.toList fs'∧(fs.flatten++G).Perm (g0++fs'.flatten)∧(zCP es cl→zCP es' cl'):=by
 obtain ⟨r,h1,h2⟩:=find3 hK (w:=w) he hk
 have h3:=hK.chk m kx kv false w hk
 have hset : ∀ o,(setObj b o).run P w=.ok () { w with heap:=w.heap.setIfInBounds b o }:=fun o=>by simp [setObj,Sem.run,hw]
 cases r with
 | none =>
  refine ⟨es.push { key:=kv,val:=vv,born:=cl },cl+1,fs++[G],[],?_,?_,?_⟩
  ·simp only [Instr.mapUpdate,Sem.run_bind,run_underlying hU,Result.andThen_ok,zCA hw,h3,h1,hset]
  ·rw [Array.toList_push]
   exact ent3_push hh.1 ⟨⟨hk,or_one hv hor⟩,fun n hn=>absurd hn (hh.2 n),fun _=>hor⟩ he h2
  ·exact ⟨by simp,fun h=>births_push h kv vv⟩
 | some q =>
  obtain ⟨q,u⟩:=q
  obtain ⟨y0,e,g0,g1,g2,g3,g4,g5,g6⟩:=h2
  have h9:=hK.stays m kx e.key kv w g5.1.1 hk
  have h10 : es[q]?=some e:=by simpa using g2
  refine ⟨es.modify q fun e=>{ e with key:=kv,val:=vv },cl,fs.set q G,g0,?_,?_,?_⟩
  ·simp only [Instr.mapUpdate,Sem.run_bind,run_underlying hU,Result.andThen_ok,zCA hw,h3,h1,h10,Option.map_some,Option.getD_some,h9,hset]
  ·rw [Array.toList_modify]
   exact ent3_set hh.1 he hnd (by rw [g1]; rfl) g2 g6 _ ⟨⟨hk,or_one hv hor⟩,fun n hn=>absurd hn (hh.2 n),fun _=>hor⟩
  ·refine ⟨?_,fun h=>births_modify h q _ (fun _=>rfl)⟩
   obtain ⟨p1,p2⟩:=zBl g3 G
   refine (p1.append_right _).trans ?_
   rw [List.append_assoc]
   refine List.Perm.append_left _ ?_
   exact List.perm_append_comm.trans p2.symm
theorem aop_mptSet {i kT eT:Nat}{k:Ty}{v:OT} [DecidableEq k.den] {xs:List (k.den×v.den)}{hs hs':List (k.den×Nat)}{kx:k.den}{yx:v.den}{js:List Nat}{av:AV}{o:Oper}{K:AS→Prop}(hU:Und P T (.map kT eT)) (hK:KeyT P kT k) (ho:o.op=.mapUpdate T x y z∨o.op=.insert T x y z) (hd:o.dst=none) (hx:aev st.l x=some (.map i)) (hy:aev st.l y=some (zBx k kx)) (hz:aev st.l z=some av) (hH:st.H.get i=.mpt k v xs hs) (hno:k.noArr=true) (hP:Pk st.H v yx [av] js) (hj:(zCn (i::js)&&js.all fun j=>Nat.blt j st.n)=true) (hh:HolesTo kx hs hs')
  (k:K ⟨st.l,(i,.mpt k v (mset xs kx yx) hs')::killH js st.H,st.n⟩) : AOp P N X o K st :=
 zBH fun Q fr w m ρ φ hc K' hK'=>by
  obtain ⟨u,h1,h2⟩:=hc.ev hx
  obtain ⟨kv,h3,h4⟩:=hc.ev hy
  obtain ⟨vv,h5,h6⟩:=hc.ev hz
  simp only [Bool.and_eq_true,List.all_eq_true] at hj
  obtain ⟨hj1,hj2⟩:=hj
  have hnd:=zCS hj1
  have hl : ∀ j∈js,j < st.n:=fun j hj=>by simpa using hj2 j hj
  obtain ⟨hv,hho,xs',hp,b,es,cl,fs,rfl,hρ,hf,hw,he,hkn,hBi⟩:=own_mpt hc h2 hH
  have hil : i < st.n:=by rw [← hc.nρ]; exact (List.getElem?_eq_some_iff.1 hρ).1
  have hor : OR m v yx [vv] (js.flatMap fun j=>φ.getD j []):=pk_or hc.objD hP (by simp only [RepL]; exact ⟨h6,trivial⟩)
  obtain ⟨es',cl',fs',g0,hr,he',hpm,hBi'⟩:=run_mapUpdate3 hU hK hw he hkn (zCm (fit_noArr hno) h4) hv hor hh
  obtain ⟨hP1,hb'⟩:=zDm (o':=.map es' cl') hw
  have hbf:=hc.before hnd (by intro j hj; rcases List.mem_cons.1 hj with rfl | hj; exact hil; exact hl j hj)
  rw [List.flatMap_cons,List.getD_eq_getElem?_getD,hf,Option.getD_some,List.cons_append,List.cons_append] at hbf
  have hpt:=hbf.put hP1 hb' rfl
  have hsh : SH X.e { w with heap:=w.heap.setIfInBounds b (.map es' cl') } m (((b,.map es' cl')::fs'.flatten)++((killF φ (i::js)).flatten++X.F)):=by
   refine SH.tail (f:=g0) (hpt.perm ?_)
   have h7 : (g0++((b,Obj.map es' cl')::fs'.flatten)).Perm ((b,Obj.map es' cl')::(fs.flatten++js.flatMap fun j=>φ.getD j [])):=by
    refine List.perm_middle.trans (List.Perm.cons _ hpm.symm)
   have h8:=(h7.append_right ((killF φ (i::js)).flatten++X.F)).symm
   simpa [List.append_assoc] using h8
  obtain ⟨l1,l2,l3⟩:=ent3_get he'
  refine op_skip (w':={ w with heap:=w.heap.setIfInBounds b (.map es' cl') }) hd (fun ac ha=>?_) ?_ (dk_put hP1 hw rfl) ?_
  ·rcases ho with ho | ho <;> simp only [execOp,ho,ha.eval h1,ha.eval h3,ha.eval h5,Sem.run_bind,hr] <;> rfl
  ·refine hK' _ _ _ _ _ _ (hc.fall hnd hl hρ (o:=.mpt _ v (mset xs kx yx) hs') ⟨hv,fun q hq=>?_,_,mset_perm hp hkn kx yx,b,es',cl',fs',rfl,rfl,by simpa using l1,l2,⟨zBZ _ _ hkn,hBi' hBi⟩,l3⟩ hsh) k
   obtain ⟨z,n⟩:=q
   have hz : z≠kx:=by rintro rfl; exact hh.2 n hq
   have:=hho _ ((hh.1 z n hz).2 hq)
   exact ⟨this.1,fun h=>this.2 (mset_keys_sub h)⟩
  ·rcases ho with ho | ho <;> simp [nodef,ho]
end
end Go.Ab
namespace Go.Ab
open Go.RowKit Go.Shelf Go.Proofs Go.Eng

def opn : (v:OT)→v.den→Nat→List AV×List AO
 | .dat t,x,_=>(expl t x,[])
 | .pair a b,x,n=>((opn a x.1 n).1++(opn b x.2 (n+(opn a x.1 n).2.length)).1,(opn a x.1 n).2++(opn b x.2 (n+(opn a x.1 n).2.length)).2)
 | .sl E e,x,n=>match e,x with
  | .dat t,x=>([.osl n],[.sl E t x])
  | _,_=>([.any],[])
 | .mp k e,x,n=>match e,x with
  | .dat t,x=>([.map n],[.map k t x])
  | e,x=>if e.node then ([.map n],[.mpt k e x []]) else ([.any],[])
 | .pt T e,x,n=>([.ptr n 0],.var T (opn e x (n+1)).1::(opn e x (n+1)).2)

def Roots (m:Mem) (ρ:List Value) : List AO→List Value→List Frag→Prop
 | [],[],[]=>True
 | o::os,h::hs,g::gs=>ORep m ρ o h g∧Roots m ρ os hs gs
 | _,_,_=>False
theorem Roots.mono {m:Mem}{ρ ρ':List Value}(hρ:∀ (i:Nat) (h:Value),ρ[i]?=some h→ρ'[i]?=some h) : ∀ {os:List AO}{hs:List Value}{gs:List Frag},Roots m ρ os hs gs→Roots m ρ' os hs gs:=by
 intro os
 induction os with
 | nil=>intro hs gs h; cases hs with
  | nil=>cases gs with
   | nil=>trivial
   | cons=>exact h.elim
  | cons=>exact h.elim
 | cons o os ih=>intro hs gs h; cases hs with
  | nil=>exact h.elim
  | cons u hs=>cases gs with
   | nil=>exact h.elim
   | cons g gs=>exact ⟨h.1.mono (Mem.le_refl _) hρ,ih h.2⟩
theorem Roots.app {m:Mem}{ρ:List Value} : ∀ {os os':List AO}{hs hs':List Value}{gs gs':List Frag},Roots m ρ os hs gs→Roots m ρ os' hs' gs'→Roots m ρ (os++os') (hs++hs') (gs++gs'):=by
 intro os
 induction os with
 | nil=>intro os' hs hs' gs gs' h k; cases hs with
  | nil=>cases gs with
   | nil=>exact k
   | cons=>exact h.elim
  | cons=>exact h.elim
 | cons o os ih=>intro os' hs hs' gs gs' h k; cases hs with
  | nil=>exact h.elim
  | cons u hs=>cases gs with
   | nil=>exact h.elim
   | cons g gs=>exact ⟨h.1,ih h.2 k⟩
theorem Roots.get {m:Mem}{ρ:List Value} : ∀ {os:List AO}{hs:List Value}{gs:List Frag},Roots m ρ os hs gs→os.length=hs.length∧gs.length=hs.length∧∀ (q:Nat) (h:Value) (f:Frag),hs[q]?=some h→gs[q]?=some f→∃ o,os[q]?=some o∧ORep m ρ o h f:=by
 intro os
 induction os with
 | nil=>intro hs gs h; cases hs with
  | nil=>cases gs with
   | nil=>exact ⟨rfl,rfl,fun q h f hq=>by simp at hq⟩
   | cons=>exact h.elim
  | cons=>exact h.elim
 | cons o os ih=>intro hs gs h; cases hs with
  | nil=>exact h.elim
  | cons u hs=>cases gs with
   | nil=>exact h.elim
   | cons g gs =>
    obtain ⟨h1,h2,h3⟩:=ih h.2
    refine ⟨by simp [h1],by simp [h2],fun q h' f a b=>?_⟩
    cases q with
    | zero=>simp at a b; subst a b; exact ⟨o,rfl,h.1⟩
    | succ q=>simpa using h3 q h' f (by simpa using a) (by simpa using b)
theorem pre_apps {ρ hs:List Value} : ∀ (i:Nat) (u:Value),ρ[i]?=some u→(ρ++hs)[i]?=some u:=by
 intro i u hi
 rw [List.getElem?_append_left (List.getElem?_eq_some_iff.1 hi).1]; exact hi
theorem sl_root {m:Mem}{ρ:List Value}{E:TypeId}{t:Ty}{x:List t.den}{cs:List Value}{f:Frag}(h:OR m (.sl E (.dat t)) x cs f) : ∃ u,cs=[u]∧u.oneCell'=true∧ORep m ρ (.sl E t x) u f:=by
 obtain ⟨h0,⟨g1,g2,g3⟩ | ⟨b,c,arr,us,fs,g1,g2,g3,g4,g5,g6,g7,g8,g9⟩⟩:=h
 ·exact ⟨_,g2,rfl,h0,.inl ⟨g1,rfl,g3⟩⟩
 ·have hfs : fs.flatten=[]:=by
   rw [List.flatten_eq_nil_iff]
   intro g hg
   obtain ⟨i,hi⟩:=List.getElem?_of_mem hg
   have hl:=(List.getElem?_eq_some_iff.1 hi).1
   exact (g9 i _ _ g (List.getElem?_eq_getElem (by omega)) (List.getElem?_eq_getElem (by omega)) hi).2
  refine ⟨_,g1,rfl,h0,.inr ⟨b,c,arr,us.flatten,rfl,by rw [g2,hfs],g3,g4,g5,⟨us,g6,rfl,fun i y u hy hu=>?_⟩,g8⟩⟩
  have hl:=(List.getElem?_eq_some_iff.1 hy).1
  exact (g9 i y u (fs[i]'(by omega)) hy hu (List.getElem?_eq_getElem _)).1
theorem map_root {m:Mem}{ρ:List Value}{k t:Ty}{x:List (k.den×t.den)}{cs:List Value}{f:Frag}(h:OR m (.mp k (.dat t)) x cs f) : ∃ u,cs=[u]∧u.oneCell'=true∧ORep m ρ (.map k t x) u f:=by
 obtain ⟨x',hp,b,es,cl,fs,g1,g2,g3,g4,g5,g6⟩:=h
 have hfs : fs.flatten=[]:=by
  rw [List.flatten_eq_nil_iff]
  intro g hg
  obtain ⟨i,hi⟩:=List.getElem?_of_mem hg
  have hl:=(List.getElem?_eq_some_iff.1 hi).1
  obtain ⟨_,us,_,h2⟩:=g6 i _ _ g (List.getElem?_eq_getElem (by omega)) (List.getElem?_eq_getElem (by omega)) hi
  exact h2.2
 refine ⟨_,g1,rfl,x',hp,b,es,cl,rfl,by rw [g2,hfs],g3,g5.1,g5.2,fun i p e hp he=>?_⟩
 have hl:=(List.getElem?_eq_some_iff.1 hp).1
 obtain ⟨c1,us,c2,c3⟩:=g6 i p e (fs[i]'(by omega)) hp he (List.getElem?_eq_getElem _)
 refine ⟨c1,?_⟩
 unfold RV
 cases ha : (OT.dat t).aggB with
 | true=>rw [if_pos (show t.agg=true from ha)]; simp only [ha,if_true] at c2; exact ⟨us,c2,c3.1⟩
 | false=>rw [if_neg (show ¬ t.agg=true from by have : t.agg=false:=ha; simp [this])]; simp [ha] at c2; subst c2; exact c3.1
theorem mpt_root {m:Mem}{ρ:List Value}{k:Ty}{e:OT}{x:List (k.den×e.den)}{cs:List Value}{f:Frag}(hn:e.node=true) (h:OR m (.mp k e) x cs f) : ∃ u,cs=[u]∧u.oneCell'=true∧ORep m ρ (.mpt k e x []) u f:=by
 obtain ⟨x',hp,b,es,cl,fs,g1,g2,g3,g4,g5,g6⟩:=h
 refine ⟨_,g1,rfl,hn,fun q hq=>by simp at hq,x',hp,b,es,cl,fs,rfl,g2,g3,g4,g5,fun i p e' g a1 a2 a3=>?_⟩
 obtain ⟨c1,us,c2,c3⟩:=g6 i p e' g a1 a2 a3
 have ha : e.aggB=false:=by cases e <;> simp_all [OT.node,OT.aggB]
 simp [ha] at c2
 subst c2
 exact ⟨⟨c1,or_one hn c3⟩,fun n hn=>by simp at hn,fun _=>c3⟩
theorem opn_rep {m:Mem} : ∀ {v:OT}{x:v.den}{cs:List Value}{f:Frag}{ρ:List Value},OR m v x cs f→∃ hs gs g0,f.Perm (g0++gs.flatten)∧RepL m (ρ++hs) (opn v x ρ.length).1 cs∧Roots m (ρ++hs) (opn v x ρ.length).2 hs gs:=by
 have one : ∀ {ρ:List Value} {a:AV} {u:Value},RepA m ρ a u→RepL m ρ [a] [u]:=fun h=>by simp only [RepL]; exact ⟨h,trivial⟩
 intro v
 induction v with
 | dat t=>intro x cs f ρ h; obtain ⟨h1,rfl⟩:=h; exact ⟨[],[],[],by simp,rc_expl h1,trivial⟩
 | pair a b iha ihb =>
  intro x cs f ρ h
  obtain ⟨c,d,g,l,rfl,rfl,h3,h4⟩:=h
  obtain ⟨hs1,gs1,g1,p1,r1,o1⟩:=iha (ρ:=ρ) h3
  obtain ⟨hs2,gs2,g2,p2,r2,o2⟩:=ihb (ρ:=ρ++hs1) h4
  have hl : (ρ++hs1).length=ρ.length+(opn a x.1 ρ.length).2.length:=by rw [List.length_append,o1.get.1]
  rw [hl] at r2 o2
  rw [List.append_assoc] at r2 o2
  have hpre : ∀ (i:Nat) (u:Value),(ρ++hs1)[i]?=some u→(ρ++(hs1++hs2))[i]?=some u:=by rw [← List.append_assoc]; exact pre_apps
  refine ⟨hs1++hs2,gs1++gs2,g1++g2,?_,RepL.app (RepL.mono (Mem.le_refl _) hpre _ r1) r2,(o1.mono hpre).app o2⟩
  rw [List.flatten_append]
  refine (p1.append p2).trans ?_
  rw [List.append_assoc,List.append_assoc]
  refine List.Perm.append_left _ ?_
  exact List.perm_append_comm_assoc _ _ _
 | sl E e ih =>
  intro x cs f ρ h
  cases e with
  | dat t =>
   obtain ⟨u,rfl,h1,h2⟩:=sl_root (ρ:=ρ++[(cs.head?).getD undef]) h
   exact ⟨[u],[f],[],by simp,one (by simp only [RepA]; exact ⟨by simp,h1⟩),by simpa using h2,trivial⟩
  | sl =>
   obtain ⟨u,rfl⟩ : ∃ u,cs=[u]:=by { obtain ⟨_,⟨_,h1,_⟩ | ⟨b,c,_,_,_,h1,_⟩⟩:=h <;> exact ⟨_,h1⟩ }
   exact ⟨[],[],f,by simp,one (by simp only [RepA]),trivial⟩
  | mp =>
   obtain ⟨u,rfl⟩ : ∃ u,cs=[u]:=by { obtain ⟨_,⟨_,h1,_⟩ | ⟨b,c,_,_,_,h1,_⟩⟩:=h <;> exact ⟨_,h1⟩ }
   exact ⟨[],[],f,by simp,one (by simp only [RepA]),trivial⟩
  | pt =>
   obtain ⟨u,rfl⟩ : ∃ u,cs=[u]:=by { obtain ⟨_,⟨_,h1,_⟩ | ⟨b,c,_,_,_,h1,_⟩⟩:=h <;> exact ⟨_,h1⟩ }
   exact ⟨[],[],f,by simp,one (by simp only [RepA]),trivial⟩
  | pair =>
   obtain ⟨u,rfl⟩ : ∃ u,cs=[u]:=by { obtain ⟨_,⟨_,h1,_⟩ | ⟨b,c,_,_,_,h1,_⟩⟩:=h <;> exact ⟨_,h1⟩ }
   exact ⟨[],[],f,by simp,one (by simp only [RepA]),trivial⟩
 | mp k e ih =>
  intro x cs f ρ h
  have key : ∀ (e:OT) (x:List (k.den×e.den)),OR m (.mp k e) x cs f→∃ hs gs g0,f.Perm (g0++gs.flatten)∧RepL m (ρ++hs) (if e.node then (([.map ρ.length],[.mpt k e x []]) : List AV×List AO) else ([.any],[])).1 cs∧Roots m (ρ++hs) (if e.node then (([.map ρ.length],[.mpt k e x []]) : List AV×List AO) else ([.any],[])).2 hs gs:=by
   intro e x h
   cases hn : e.node with
   | true =>
    obtain ⟨u,rfl,h1,h2⟩:=mpt_root (ρ:=ρ++[(cs.head?).getD undef]) hn h
    exact ⟨[u],[f],[],by simp,one (by simp only [RepA]; exact ⟨by simp,h1⟩),by simpa using h2,trivial⟩
   | false =>
    obtain ⟨_,_,b,es,cl,fs,rfl,_⟩:=h
    exact ⟨[],[],f,by simp,one (by simp only [RepA]),trivial⟩
  cases e with
  | dat t =>
   obtain ⟨u,rfl,h1,h2⟩:=map_root (ρ:=ρ++[(cs.head?).getD undef]) h
   exact ⟨[u],[f],[],by simp,one (by simp only [RepA]; exact ⟨by simp,h1⟩),by simpa using h2,trivial⟩
  | sl E e=>exact key _ x h
  | mp k' e=>exact key _ x h
  | pt T e=>exact key _ x h
  | pair a b=>exact key _ x h
 | pt T e ih =>
  intro x cs f ρ h
  obtain ⟨b,us,g,rfl,rfl,h3,h4⟩:=h
  obtain ⟨hs,gs,g0,p1,r1,o1⟩:=ih (ρ:=ρ++[.pointer (some ⟨b,0,none⟩)]) h4
  rw [List.length_append,List.length_singleton,List.append_assoc] at r1
  rw [List.length_append,List.length_singleton,List.append_assoc] at o1
  refine ⟨.pointer (some ⟨b,0,none⟩)::hs,[(b,.cells us.toArray T (0,0))]::gs,g0,?_,one ?_,?_⟩
  ·rw [List.flatten_cons]
   refine (p1.cons _).trans ?_
   exact List.perm_middle.symm
  ·simp only [RepA]; exact ⟨b,by simp,rfl⟩
  ·exact ⟨⟨b,us,rfl,rfl,r1,h3⟩,o1⟩
end Go.Ab
namespace Go.Ab
open Go.RowKit Go.Shelf Go.Proofs Go.Eng

theorem mget_at {α β:Type} [DecidableEq α] : ∀ {x:List (α×β)}{z:α}{y:β},mget x z=some y→∃ i : Nat,x[i]?=some (z,y)∧∀ j,j < i→(x[j]?).map (·.1)≠some z:=by
 intro x
 induction x with
 | nil=>intro z y h; simp [mget] at h
 | cons p x ih =>
  intro z y h
  simp only [mget] at h
  split at h
  ·rename_i hz; cases h; exact ⟨0,by simp [hz],fun j hj=>absurd hj (by omega)⟩
  ·rename_i hz
   obtain ⟨i,h1,h2⟩:=ih h
   refine ⟨i+1,by simpa using h1,fun j hj=>?_⟩
   cases j with
   | zero=>simp; exact fun e=>hz e.symm
   | succ j=>simpa using h2 j (by omega)
theorem mset_same {α β:Type} [DecidableEq α] : ∀ {x:List (α×β)}{z:α}{y:β},mget x z=some y→mset x z y=x:=by
 intro x
 induction x with
 | nil=>intro z y h; simp [mget] at h
 | cons p x ih =>
  intro z y h
  simp only [mget] at h
  split at h
  ·rename_i hz; cases h; simp [mset,hz]
  ·rename_i hz; simp [mset,hz,ih h]
theorem opn_head {m:Mem}{ρ:List Value}{v:OT}{x:v.den}{n:Nat}{u:Value}(hv:v.node=true) (hn:(opn v x n).2≠[]) (h:RepL m ρ (opn v x n).1 [u]) : ρ[n]?=some u:=by
 cases v with
 | dat=>simp [OT.node] at hv
 | pair=>simp [OT.node] at hv
 | sl E e =>
  cases e with
  | dat t=>simp only [opn,RepL,RepA] at h; exact h.1.1
  | _=>simp [opn] at hn
 | mp k e =>
  cases e with
  | dat t=>simp only [opn,RepL,RepA] at h; exact h.1.1
  | pair=>simp [opn,OT.node] at hn
  | sl=>simp only [opn,OT.node,if_true,RepL,RepA] at h; exact h.1.1
  | mp=>simp only [opn,OT.node,if_true,RepL,RepA] at h; exact h.1.1
  | pt=>simp only [opn,OT.node,if_true,RepL,RepA] at h; exact h.1.1
 | pt T e =>
  simp only [opn,RepL,RepA] at h
  obtain ⟨⟨b,h1,h2⟩,_⟩:=h
  rw [h1,h2]

section
variable {P:Program} {N:Ev} {X:Cx} {Q:zBa} {st:AS}

theorem wk_open {i:Nat}{k:Ty}{v:OT} [DecidableEq k.den] {xs:List (k.den×v.den)}{hs:List (k.den×Nat)}{kx:k.den}{yx:v.den}(os:List AO) (hi:Nat.blt i st.n=true) (hH:st.H.get i=.mpt k v xs hs) (hg:mget xs kx=some yx) (hn:∀ n,(kx,n)∉hs) (ho:(opn v yx st.n).2=os) (hne:os.isEmpty=false) :
  Wk X st ⟨st.l,(i,.mpt k v xs ((kx,st.n)::hs))::(zipH st.n os++st.H),st.n+os.length⟩:=by
 intro fr w m ρ φ hc
 have hil : i < st.n:=by simpa using hi
 obtain ⟨u,hu⟩ : ∃ u,ρ[i]?=some u:=⟨_,List.getElem?_eq_getElem (by rw [hc.nρ]; exact hil)⟩
 obtain ⟨f,hf,hor,hw⟩:=hc.obj hu
 rw [hH] at hor
 obtain ⟨hv,hho,xs',hp,b,es,cl,fs,rfl,rfl,h1,h2,h3,h4⟩:=hor
 have he:=ent3_of (m:=m) (ρ:=ρ) h1 h2 h4
 have hg:=(zDV hp h3.1 kx).trans hg
 obtain ⟨p,g1,g2⟩:=mget_at hg
 have hpl:=(List.getElem?_eq_some_iff.1 g1).1
 have g3 : es.toList[p]?=some (es.toList[p]'(by omega)):=List.getElem?_eq_getElem _
 have g4 : fs[p]?=some (fs[p]'(by omega)):=List.getElem?_eq_getElem _
 have hE:=h4 p _ _ _ g1 g3 g4
 have hOR:=hE.2.2 hn
 obtain ⟨hds,gs,g0,p1,r1,o1⟩:=opn_rep (ρ:=ρ) hOR
 rw [hc.nρ] at r1 o1
 have hne' : (opn v yx st.n).2≠[]:=by rw [ho]; intro e; rw [e] at hne; cases hne
 have hhead:=opn_head hv hne' r1
 rw [ho] at o1
 obtain ⟨l1,l2,l3⟩:=o1.get
 obtain ⟨p2,p3⟩:=zBl g4 []
 obtain ⟨q1,q2⟩:=zBl hf ((b,.map es cl)::(fs.set p []).flatten)
 have hsh : SH X.e w m ((φ.set i ((b,.map es cl)::(fs.set p []).flatten)).flatten++gs.flatten++X.F):=by
  refine SH.tail (f:=g0) ((hc.sh.perm ?_))
  rw [← List.append_assoc]
  refine List.Perm.append_right _ ?_
  refine q1.trans ?_
  have a1 : ((b,Obj.map es cl)::fs.flatten).Perm ((b,Obj.map es cl)::((g0++gs.flatten)++(fs.set p []).flatten)):=by
   refine List.Perm.cons _ (p2.trans ?_)
   refine (p1.append_right _).trans ?_
   refine List.Perm.append_left _ ?_
   rw [List.nil_append] at p3
   exact p3.symm
  refine (a1.append_right _).trans ?_
  have a2 : (g0++((φ.set i ((b,.map es cl)::(fs.set p []).flatten)).flatten++gs.flatten)).Perm (g0++((((b,.map es cl)::(fs.set p []).flatten)++(φ.eraseIdx i).flatten)++gs.flatten)):=List.Perm.append_left _ (q2.append_right _)
  refine List.Perm.trans ?_ a2.symm
  simp only [List.cons_append,List.append_assoc]
  refine List.Perm.trans ?_ List.perm_middle.symm
  refine List.Perm.cons _ (List.Perm.append_left _ ?_)
  refine List.perm_append_comm.trans ?_
  rw [List.append_assoc]
 have hre:=Conc.re hc (Mem.le_refl m) (H':=(i,.mpt k v xs ((kx,st.n)::hs))::(zipH st.n os++st.H)) (ρ2:=hds) (φ1:=φ.set i ((b,.map es cl)::(fs.set p []).flatten)) (φ2:=gs) (w':=w) (by simp) l2 ?_ ?_ hsh
 ·rw [show st.n+os.length=st.n+hds.length by rw [l1]]
  exact ⟨m,_,_,hre⟩
 ·intro q h f hq hfq
  rw [AH.get_cons]
  by_cases e : i=q
  ·subst e
   rw [if_pos rfl]
   rw [hu] at hq; cases hq
   rw [List.getElem?_set_self (by rw [hc.nφ]; exact hil)] at hfq
   cases hfq
   have hE3 : Ent3 m (ρ++hds) k v ((kx,st.n)::hs) (mset xs' kx yx) (es.toList.modify p fun e=>e) (fs.set p []):=by
    refine ent3_set (hs:=hs) ?_ (ent3_of h1 h2 fun i p e g a b c=>(h4 i p e g a b c).mono (Mem.le_refl _) pre_apps) h3.1 (by rw [g1]; rfl) g3 g2 _ ⟨hE.1,fun n hn'=>⟨rfl,?_⟩,fun hn'=>absurd (List.mem_cons.2 (.inl rfl)) (hn' st.n)⟩
    ·intro z n hz
     simp only [List.mem_cons,Prod.mk.injEq]
     exact ⟨fun h=>.inr h,fun h=>h.resolve_left fun e=>hz e.1⟩
    ·rcases List.mem_cons.1 hn' with e | e
     ·rw [Prod.mk.injEq] at e; rw [e.2]; exact hhead
     ·exact absurd e (hn n)
   rw [mset_same hg] at hE3
   have hid : (es.toList.modify p fun e=>e)=es.toList:=List.modify_id _ _
   rw [hid] at hE3
   obtain ⟨t1,t2,t3⟩:=ent3_get hE3
   refine ⟨hv,fun q hq=>?_,xs',hp,b,es,cl,_,rfl,rfl,t1,t2,h3,t3⟩
   rcases List.mem_cons.1 hq with rfl | hq
   ·refine ⟨⟨_,hhead⟩,fun hz=>absurd ?_ hz⟩
    exact (hp.map _).mem_iff.1 (List.mem_map.2 ⟨_,List.mem_of_getElem? g1,rfl⟩)
   ·exact (hho q hq).tr fun u hu=>pre_apps _ _ hu
  ·rw [if_neg e]
   rw [List.getElem?_set_ne e] at hfq
   have hqn : q < st.n:=by rw [← hc.nρ]; exact (List.getElem?_eq_some_iff.1 hq).1
   have : AH.get (zipH st.n os++st.H) q=st.H.get q:=by
    have key : ∀ (os:List AO) (n:Nat),q < n→AH.get (zipH n os++st.H) q=st.H.get q:=by
     intro os
     induction os with
     | nil=>intro n _; rfl
     | cons o os ih =>
      intro n hn
      rw [zipH,List.cons_append,AH.get_cons,if_neg (by omega)]
      exact ih (n+1) (by omega)
    exact key os _ hqn
   rw [this]
   exact (hc.objs q h f hq hfq).mono (Mem.le_refl _) pre_apps
 ·intro q h f hq hfq
  obtain ⟨o,ho1,ho2⟩:=l3 q h f hq hfq
  rw [AH.get_cons,if_neg (by omega)]
  have key : ∀ (os:List AO) (n q:Nat) (o:AO),os[q]?=some o→AH.get (zipH n os++st.H) (n+q)=o:=by
   intro os
   induction os with
   | nil=>intro n q o h; simp at h
   | cons a os ih =>
    intro n q o h
    rw [zipH,List.cons_append,AH.get_cons]
    cases q with
    | zero=>simp at h; subst h; simp
    | succ q =>
     rw [if_neg (by omega)]
     have:=ih (n+1) q o (by simpa using h)
     rw [show n+(q+1)=n+1+q by omega]; exact this
  rw [key os _ _ _ ho1]; exact ho2
end
end Go.Ab
namespace Go.Ab
open Go.RowKit Go.Shelf Go.Proofs Go.Eng

section
variable {P:Program} {N:Ev} {Q:Post} {l:Fr} {w:World}

theorem count_set {listed:Array Bool}{i fuel:Nat}(hun:listed[i]?=some false) (hf:(listed.toList.filter (! ·)).length≤fuel+1) : ((listed.setIfInBounds i true).toList.filter (! ·)).length≤fuel:=by
 have hlt:=(Array.getElem?_eq_some_iff.1 hun).1
 have hlt' : i < listed.toList.length:=by simpa using hlt
 have e1 : (listed.setIfInBounds i true).toList=listed.toList.set i true:=by simp
 rw [e1]
 have e2 : listed.toList=listed.toList.take i++false::listed.toList.drop (i+1):=by
  have hg : listed.toList[i]=false:=by
   have:=hun
   rw [Array.getElem?_eq_getElem hlt] at this
   simpa using this
  rw [← hg,← List.drop_eq_getElem_cons hlt']; simp
 have e3 : listed.toList.set i true=listed.toList.take i++true::listed.toList.drop (i+1):=by
  rw [List.set_eq_take_append_cons_drop,if_pos hlt']
 rw [e3]
 rw [e2] at hf
 simp only [List.filter_append,List.length_append,List.filter_cons,Bool.not_false,Bool.not_true,if_true,List.length_cons] at hf ⊢
 simp at hf ⊢
 omega

def LateA (ops:List Oper) (fl:List Nat) (Ψ:Nat→Value→Prop) (listed:Array Bool) (a:Act) : Prop :=
 ∀ j∈fl,listed[j]?=some true→∀ o,ops[j]?=some o→∃ d v,o.dst=some d∧a.tmps[d]?=some v∧Ψ j v
structure LateOk (P:Program) (N:Ev) (ops:List Oper) (m:Nat) (fl:List Nat) (Ψ:Nat→Value→Prop) (Q:Post) (l2:Fr) (W2:World) : Prop where
 run : ∀ j∈fl,∀ o,ops[j]?=some o→o.guard=none∧∃ d,o.dst=some d∧d < N.n∧l2.look d=none∧(∀ j'∈fl,∀ o',ops[j']?=some o'→o'.dst=some d→j'=j) ∧
  ∃ ds : List Nat,(∀ k∈ds,k∈fl∧∃ e∈o.after,Region.binds .any e=true∧e.on=k)∧∀ a W,Below W2.heap.size W2 W→Holds N l2 a→Eng.Good N a W→(∀ k∈ds,∀ o',ops[k]?=some o'→∃ d v,o'.dst=some d∧a.tmps[d]?=some v∧Ψ k v)→∃ l1,Holds N l1 a∧OpW P N o (fun l' W'=>(∃ v,l'.look d=some v∧Ψ j v)∧Below W.heap.size W W') Q l1 W

theorem late_any {ops:List Oper}{m:Nat}(hml:m < ops.length) (hch:Consec m ops) (hback:∀ (i:Nat) (o:Oper),ops[i]?=some o→∀ e∈o.after,Region.binds .any e=true→e.on < i){fl:List Nat}(hfl:∀ j∈fl,j < m){Ψ:Nat→Value→Prop}{l2:Fr}{W2:World}
  (hob:LateOk P N ops m fl Ψ Q l2 W2) (hnx:∀ j∈fl,∃ o,ops[m+1]?=some o∧∃ e∈o.after,Region.binds .any e=true∧e.on=j)
  (hfin:∀ a W,Below W2.heap.size W2 W→Holds N l2 a→Eng.Good N a W→(∀ j∈fl,∀ o,ops[j]?=some o→∃ d v,o.dst=some d∧a.tmps[d]?=some v∧Ψ j v)→wpListIn (FW N.ro) 0 P ops.toArray (up N Q) (ops.drop (m+1)) a W) :
  ∀ (fuel:Nat) (listed:Array Bool) (a:Act) (W:World),Below W2.heap.size W2 W→Holds N l2 a→Eng.Good N a W→LateA ops fl Ψ listed a→listed.size=ops.length→(∀ j,j≤m→j∉fl→listed[j]?=some true)→(∀ j,m < j→j < ops.length→listed[j]?=some false)→(listed.toList.filter (! ·)).length≤fuel →
   wpAnyIn (FW N.ro) 0 P .any ops.toArray (up N Q) fuel listed a W:=by
 intro fuel
 have start : ∀ (fuel:Nat) (listed:Array Bool) (a:Act) (W:World),Below W2.heap.size W2 W→Holds N l2 a→Eng.Good N a W→LateA ops fl Ψ listed a→listed.size=ops.length→(∀ j,j≤m→listed[j]?=some true)→(∀ j,m < j→j < ops.length→listed[j]?=some false)→(listed.toList.filter (! ·)).length≤fuel →
   wpAnyIn (FW N.ro) 0 P .any ops.toArray (up N Q) fuel listed a W:=by
  intro fuel listed a W h1 h2 h3 h4 hs hA hB hf
  have hl : ∀ j,j < ops.length→listed[j]?=some (decide (j < m+1)):=by
   intro j hj
   by_cases h : j≤m
   ·rw [hA j h]; simp; omega
   ·rw [hB j (by omega) hj]; simp; omega
  have hcnt : ops.length - (m+1)≤(listed.toList.filter (! ·)).length:=by
   have e : listed.toList=listed.toList.take (m+1)++listed.toList.drop (m+1):=(List.take_append_drop _ _).symm
   rw [e,List.filter_append,List.length_append]
   have e2 : (listed.toList.drop (m+1)).filter (! ·)=listed.toList.drop (m+1):=by
    rw [List.filter_eq_self]
    intro x hx
    obtain ⟨j,hj,rfl⟩:=List.getElem_of_mem hx
    simp only [List.length_drop,Array.length_toList] at hj
    have:=hB (m+1+j) (by omega) (by omega)
    rw [Array.getElem?_eq_getElem (by omega)] at this
    simp only [Option.some.injEq] at this
    simp [this]
   rw [e2]; simp; omega
  refine tail_any2 hch hback fuel (m+1) listed a W (by omega) (by omega) (by omega) hs hl (hfin a W h1 h2 h3 fun j hj o ho=>h4 j hj (hA j (by have:=hfl j hj; omega)) o ho)
 induction fuel with
 | zero =>
  intro listed a W h1 h2 h3 h4 hs hA hB hf
  have hnil : ∀ i,i < ops.length→listed[i]?=some true:=by
   intro i hi
   have hfl : listed.toList.filter (! ·)=[]:=List.eq_nil_of_length_eq_zero (by omega)
   rw [List.filter_eq_nil_iff] at hfl
   have hlt : i < listed.size:=by omega
   have hm:=hfl listed[i] (by simp)
   rw [Array.getElem?_eq_getElem hlt]
   simpa using hm
  exact start 0 listed a W h1 h2 h3 h4 hs (fun j hj=>hnil j (by omega)) hB hf
 | succ fuel ih =>
  intro listed a W h1 h2 h3 h4 hs hA hB hf
  by_cases hall : ∀ i,i≤m→listed[i]?=some true
  ·exact start (fuel+1) listed a W h1 h2 h3 h4 hs hall hB hf
  ·refine ⟨fun hr=>?_,?_⟩
   ·exfalso
    apply hall
    intro i
    induction i using Nat.strongRecOn with
    | _ i ihi =>
     intro him
     rcases hli : listed[i]? with _ | b
     ·simp at hli; omega
     ·cases b with
      | true=>rfl
      | false =>
       exfalso
       have hi : i < ops.length:=by omega
       have : i∈Region.ready .any ops.toArray listed:=by
        simp only [Region.ready,List.mem_filter,List.mem_range,List.size_toArray]
        refine ⟨hi,?_⟩
        simp only [Array.getD_eq_getD_getElem?,hli,Option.getD_some,Bool.not_false,Bool.true_and]
        have ho0 : ops[i]?=some (ops[i]'hi):=List.getElem?_eq_getElem hi
        have ho : ops.toArray[i]?=some (ops[i]'hi):=by simp
        simp only [ho,Option.map_some,Option.getD_some,Array.all_eq_true']
        intro e he
        by_cases hb : Region.binds .any e=true
        ·have hlt:=hback i _ ho0 e he hb
         simp only [hb,Bool.not_true,Bool.false_or]
         rw [ihi e.on hlt (by omega)]; rfl
        ·simp [hb]
       rw [hr] at this
       cases this
   ·intro i hi
    simp only [Region.ready,List.mem_filter,List.mem_range,List.size_toArray] at hi
    obtain ⟨hlt,hi⟩:=hi
    rw [Bool.and_eq_true] at hi
    obtain ⟨hun,hrd⟩:=hi
    have ho : ops[i]?=some (ops[i]'hlt):=List.getElem?_eq_getElem hlt
    have ho' : ops.toArray[i]?=some (ops[i]'hlt):=by simp
    have hrd' : ∀ e∈(ops[i]'hlt).after,Region.binds .any e=true→listed[e.on]?=some true:=by
     intro e he hb
     rw [ho'] at hrd
     simp only [Option.map_some,Option.getD_some,Array.all_eq_true'] at hrd
     have:=hrd e he
     simp only [hb,Bool.not_true,Bool.false_or] at this
     rcases hlj : listed[e.on]? with _ | b
     ·simp [Array.getD_eq_getD_getElem?,hlj] at this
     ·simp [Array.getD_eq_getD_getElem?,hlj] at this; rw [this]
    have hun' : listed[i]?=some false:=by
     have hlt' : i < listed.size:=by omega
     rw [Array.getElem?_eq_getElem hlt']
     simp only [Array.getD_eq_getD_getElem?,Array.getElem?_eq_getElem hlt',Option.getD_some] at hun
     simpa using hun
    have him : i < m∧i∈fl:=by
     rcases Nat.lt_or_ge m i with h | h
     ·exfalso
      obtain ⟨e,he,hb,hon⟩:=hch i _ h ho
      have h5:=hrd' e he hb
      rw [hon] at h5
      have him : i=m+1:=by
       rcases Nat.lt_or_ge m (i - 1) with h6 | h6
       ·rw [hB (i - 1) h6 (by omega)] at h5; cases h5
       ·omega
      subst him
      apply hall
      intro j hj
      by_cases hjf : j∈fl
      ·obtain ⟨o',ho2,e',he',hb',hon'⟩:=hnx j hjf
       rw [ho] at ho2; cases ho2
       rw [← hon']; exact hrd' e' he' hb'
      ·exact hA j hj hjf
     ·have hif : i∈fl:=by
       apply Classical.byContradiction
       intro hc
       rw [hA i h hc] at hun'; cases hun'
      exact ⟨hfl i hif,hif⟩
    obtain ⟨hgu,d,hd,hdN,hd2,huq,ds,hds,hop⟩:=hob.run i him.2 _ ho
    obtain ⟨l0,hl0,hop⟩:=hop a W h1 h2 h3 fun k hk o' ho3=>h4 k (hds k hk).1 (by obtain ⟨_,e,he,hb,hon⟩:=hds k hk; rw [← hon]; exact hrd' e he hb) o' ho3
    unfold wpOpIn
    rw [ho']
    simp only []
    rw [if_pos (by simp [Region.wanted,hgu])]
    refine Oper.wpIn_mono ?_ (Oper.wpIn_frame (hop a hl0 h3))
    rintro a' W' ⟨⟨l₁,hl₁,hgd,⟨v,hv1,hv2⟩,hBW⟩,u,hu⟩
    have hget : ∀ t,d≠t→a'.tmps[t]?=a.tmps[t]?:=by
     intro t hne
     rw [hu,hd]
     simp only [Act.put,Array.getElem?_setIfInBounds_ne hne]
    refine ih _ a' W' (zBt.trans _ _ _ h1 hBW) ⟨?_,?_⟩ hgd ?_ (by simp [hs]) ?_ ?_ (count_set hun' hf)
    ·rw [hu,hd]; simp [Act.put,h2.size]
    ·intro t x htx
     rw [hget t (by rintro rfl; rw [hd2] at htx; cases htx)]
     exact h2.slot t x htx
    ·intro j hj hlj o' ho2
     by_cases e : i=j
     ·subst e
      rw [ho] at ho2; cases ho2
      exact ⟨d,v,hd,hl₁.slot _ _ hv1,hv2⟩
     ·rw [Array.getElem?_setIfInBounds_ne e] at hlj
      obtain ⟨d',v',q1,q2,q3⟩:=h4 j hj hlj o' ho2
      refine ⟨d',v',q1,?_,q3⟩
      rw [hget d' (by rintro rfl; exact e (huq j hj o' ho2 q1).symm)]
      exact q2
    ·intro j hj hjf
     have : i≠j:=by rintro rfl; exact hjf him.2
     rw [Array.getElem?_setIfInBounds_ne this]
     exact hA j hj hjf
    ·intro j hj hjl
     rw [Array.getElem?_setIfInBounds_ne (by omega)]
     exact hB j hj hjl
end
end Go.Ab
namespace Go.Ab
open Go.RowKit Go.Shelf Go.Proofs Go.Eng

def nextL (m:Nat) (ops:List Oper) (fl nx:List Nat) : Bool:=(nx.zipIdx).all (fun (q,j)=>memB j fl||(Nat.blt j q&&Nat.ble q m&&!memB q fl&&(match ops[q]? with
 | some o=>o.after.toList.any fun e=>Region.binds .any e&&Nat.beq e.on j
 | none=>false)))&&Nat.beq nx.length m
theorem nextL_all {m:Nat}{ops:List Oper}{fl nx:List Nat}(h:nextL m ops fl nx=true){listed:Array Bool}(hcl:Shut ops listed){o:Oper}(ho:ops[m]?=some o) (hrd:∀ e∈o.after,Region.binds .any e=true→listed[e.on]?=some true) :
  ∀ j,j < m→j∉fl→listed[j]?=some true:=by
 simp only [nextL,Bool.and_eq_true,List.all_eq_true] at h
 obtain ⟨h1,h2⟩:=h
 have h2:=Nat.eq_of_beq_eq_true h2
 have key : ∀ d j,m - j≤d→j < m→j∉fl→listed[j]?=some true:=by
  intro d
  induction d with
  | zero=>intro j h1 h2; omega
  | succ d ih =>
   intro j hd hj hjf
   obtain ⟨q,hq⟩ : ∃ q,nx[j]?=some q:=⟨_,List.getElem?_eq_getElem (by omega)⟩
   have h3:=h1 (q,j) (by rw [List.mem_zipIdx_iff_getElem?]; simpa using hq)
   simp only [Bool.or_eq_true,Bool.and_eq_true,Nat.blt_eq] at h3
   rcases h3 with h3 | ⟨⟨⟨h4,h5⟩,h7⟩,h6⟩
   ·exact absurd (memB_iff.1 h3) hjf
   ·have h5:=Nat.le_of_ble_eq_true h5
    have h7 : q∉fl:=fun hc=>by rw [memB_iff.2 hc] at h7; cases h7
    split at h6
    ·rename_i o' ho'
     rw [List.any_eq_true] at h6
     obtain ⟨e,he,hb⟩:=h6
     simp only [Bool.and_eq_true] at hb
     have hon:=Nat.eq_of_beq_eq_true hb.2
     rw [← hon]
     by_cases hqm : q=m
     ·subst hqm
      rw [ho] at ho'; cases ho'
      exact hrd e (Array.mem_toList_iff.1 he) hb.1
     ·exact hcl q o' ho' (ih q (by omega) (by omega) h7) e (Array.mem_toList_iff.1 he) hb.1
    ·cases h6
 exact fun j hj hjf=>key m j (by omega) hj hjf

section
variable {P:Program} {N:Ev} {Q:Post} {l:Fr} {w:World}
theorem draw_late {ops:List Oper}{m:Nat}(hml:m < ops.length){Φ:List VP}{dep:List (List Nat)}{lb:Fr}(hok:zCO N.n (ops.take m) dep lb=true) (hch:Consec m ops) (hback:∀ (i:Nat) (o:Oper),ops[i]?=some o→∀ e∈o.after,Region.binds .any e=true→e.on < i)
  {fl nx:List Nat} (hfl:∀ j∈fl,j < m) (hnx:nextL m ops fl nx=true) (hΦ:Φ.length=m) (hmono:Monos (fun w W=>Below w.heap.size w W) Φ) (hob:Obs P N (fun w W=>Below w.heap.size w W) (ops.take m) Φ Q lb w (ops.take m) Φ dep)
  {live:List Nat} (hlive:∀ j∈live,j < m∧j∉fl) {op:Oper} (hp:ops[m]?=some op) (hgu:op.guard=none) (hdp:∀ j∈fl,∀ o,ops[j]?=some o→∃ d,o.dst=some d∧op.dst≠some d) {Ψ:Nat→Value→Prop} (hΨ:∀ j∈fl,∀ φ,Φ[j]?=some φ→∀ v W,φ v W→Ψ j v) {R:Fr→World→Prop}
  (hrun:∀ W,Below w.heap.size w W→zBp (depAt (ops.take m) Φ live) lb W fun l'=>OpW P N op R Q l' W)
  (hnx2:∀ j∈fl,∃ o,ops[m+1]?=some o∧∃ e∈o.after,Region.binds .any e=true∧e.on=j)
  (hR:∀ l2 W2,R l2 W2→LateOk P N ops m fl Ψ Q l2 W2∧∀ a W,Below W2.heap.size W2 W→Holds N l2 a→Eng.Good N a W→(∀ j∈fl,∀ o,ops[j]?=some o→∃ d v,o.dst=some d∧a.tmps[d]?=some v∧Ψ j v)→wpListIn (FW N.ro) 0 P ops.toArray (up N Q) (ops.drop (m+1)) a W) :
  ∀ (fuel:Nat) (listed:Array Bool) (a:Act) (W:World),Mid N (fun w W=>Below w.heap.size w W) (ops.take m) Φ lb w listed a W→listed.size=ops.length→Shut ops listed→(∀ j,m≤j→j < ops.length→listed[j]?=some false)→(listed.toList.filter (! ·)).length≤fuel →
   wpAnyIn (FW N.ro) 0 P .any ops.toArray (up N Q) fuel listed a W:=by
 have hlen : (ops.take m).length=m:=by simp; omega
 have htk : ∀ (k:Nat) (o:Oper),(ops.take m)[k]?=some o→ops.toArray[k]?=some o:=by
  intro k o h
  rw [List.getElem?_take] at h
  split at h
  ·simpa using h
  ·cases h
 intro fuel
 induction fuel with
 | zero =>
  intro listed a W hmid hs hcl hB hf
  exfalso
  have hfl : listed.toList.filter (! ·)=[]:=List.eq_nil_of_length_eq_zero (by omega)
  rw [List.filter_eq_nil_iff] at hfl
  have hlt : m < listed.size:=by omega
  have hm:=hfl listed[m] (by simp)
  have:=hB m (Nat.le_refl _) hml
  rw [Array.getElem?_eq_getElem hlt] at this
  simp only [Option.some.injEq] at this
  rw [this] at hm; simp at hm
 | succ fuel ih =>
  intro listed a W hmid hs hcl hB hf
  refine ⟨fun hr=>?_,?_⟩
  ·exfalso
   have hall : ∀ i,i≤m→listed[i]?=some true:=by
    intro i
    induction i using Nat.strongRecOn with
    | _ i ihi =>
     intro him
     rcases hli : listed[i]? with _ | b
     ·simp at hli; omega
     ·cases b with
      | true=>rfl
      | false =>
       exfalso
       have hi : i < ops.length:=by omega
       have : i∈Region.ready .any ops.toArray listed:=by
        simp only [Region.ready,List.mem_filter,List.mem_range,List.size_toArray]
        refine ⟨hi,?_⟩
        simp only [Array.getD_eq_getD_getElem?,hli,Option.getD_some,Bool.not_false,Bool.true_and]
        have ho0 : ops[i]?=some (ops[i]'hi):=List.getElem?_eq_getElem hi
        have ho : ops.toArray[i]?=some (ops[i]'hi):=by simp
        simp only [ho,Option.map_some,Option.getD_some,Array.all_eq_true']
        intro e he
        by_cases hb : Region.binds .any e=true
        ·have hlt:=hback i _ ho0 e he hb
         simp only [hb,Bool.not_true,Bool.false_or]
         rw [ihi e.on hlt (by omega)]; rfl
        ·simp [hb]
       rw [hr] at this
       cases this
   have h1:=hall m (Nat.le_refl _)
   rw [hB m (Nat.le_refl _) hml] at h1; cases h1
  ·intro i hi
   simp only [Region.ready,List.mem_filter,List.mem_range,List.size_toArray] at hi
   obtain ⟨hlt,hi⟩:=hi
   rw [Bool.and_eq_true] at hi
   obtain ⟨hun,hrd⟩:=hi
   have ho : ops[i]?=some (ops[i]'hlt):=List.getElem?_eq_getElem hlt
   have ho' : ops.toArray[i]?=some (ops[i]'hlt):=by simp
   have hrd' : ∀ e∈(ops[i]'hlt).after,Region.binds .any e=true→listed[e.on]?=some true:=by
    intro e he hb
    rw [ho'] at hrd
    simp only [Option.map_some,Option.getD_some,Array.all_eq_true'] at hrd
    have:=hrd e he
    simp only [hb,Bool.not_true,Bool.false_or] at this
    rcases hlj : listed[e.on]? with _ | b
    ·simp [Array.getD_eq_getD_getElem?,hlj] at this
    ·simp [Array.getD_eq_getD_getElem?,hlj] at this; rw [this]
   have hun' : listed[i]?=some false:=by
    have hlt' : i < listed.size:=by omega
    rw [Array.getElem?_eq_getElem hlt']
    simp only [Array.getD_eq_getD_getElem?,Array.getElem?_eq_getElem hlt',Option.getD_some] at hun
    simpa using hun
   have hcount:=count_set hun' hf
   rcases Nat.lt_trichotomy i m with him | him | him
   ·have hot : (ops.take m)[i]?=some (ops[i]'hlt):=by rw [List.getElem?_take,if_pos him]; exact ho
    refine mid_step zBt hok (by rw [hlen]; exact hΦ) hmono hob hmid hot hrd' (fun a' W' hm'=>ih _ a' W' hm' (by simp [hs]) (shut_set hcl hs ho hrd') ?_ hcount) htk
    intro j hj hjl
    rw [Array.getElem?_setIfInBounds_ne (by omega)]
    exact hB j hj hjl
   ·subst him
    rw [ho] at hp
    cases hp
    have hnf:=nextL_all hnx hcl ho hrd'
    have hdeps : ∀ p∈depAt (ops.take i) Φ live,toldP p a W:=by
     intro p hp
     simp only [depAt,List.mem_map] at hp
     obtain ⟨j,hjm,rfl⟩:=hp
     obtain ⟨hj1,hj2⟩:=hlive j hjm
     have hoj : (ops.take i)[j]?=some ((ops.take i)[j]'(by omega)):=List.getElem?_eq_getElem (by omega)
     have hφj : Φ[j]?=some (Φ[j]'(by omega)):=List.getElem?_eq_getElem (by omega)
     exact told_dep hoj hφj (hmid.done j _ _ hoj hφj (hnf j hj1 hj2))
    obtain ⟨l',hl',hG⟩:=zBp.use (hrun W hmid.below) hmid.base hdeps
    unfold wpOpIn
    rw [ho']
    simp only []
    rw [if_pos (by simp [Region.wanted,hgu])]
    refine Oper.wpIn_mono ?_ (Oper.wpIn_frame (hG a hl' hmid.good))
    rintro a' W' ⟨⟨l₁,hl₁,hgd,hr⟩,u,hu⟩
    obtain ⟨q1,q2⟩:=hR l₁ W' hr
    refine late_any hml hch hback hfl q1 hnx2 q2 fuel _ a' W' (zBt.refl _) hl₁ hgd ?_ (by simp [hs]) ?_ ?_ hcount
    ·intro j hj hlj o hoj
     have hji : i≠j:=by have:=hfl j hj; omega
     rw [Array.getElem?_setIfInBounds_ne hji] at hlj
     obtain ⟨d,hd,hne⟩:=hdp j hj o hoj
     have hjl:=hfl j hj
     have hot : (ops.take i)[j]?=some o:=by rw [List.getElem?_take,if_pos hjl]; exact hoj
     have hφj : Φ[j]?=some (Φ[j]'(by omega)):=List.getElem?_eq_getElem (by omega)
     have hdn:=hmid.done j o _ hot hφj hlj
     unfold toldA at hdn
     rw [hd] at hdn
     obtain ⟨v,hv,hφv⟩:=hdn
     refine ⟨d,v,hd,?_,hΨ j hj _ hφj v W hφv⟩
     rw [hu]
     cases hx : (ops[i]'hlt).dst with
     | none=>exact hv
     | some d' =>
      rw [hx] at hne
      simp only [Act.put,Array.getElem?_setIfInBounds_ne (fun e:d'=d=>hne (by rw [e]))]
      exact hv
    ·intro j hj hjf
     by_cases e : i=j
     ·subst e; rw [Array.getElem?_setIfInBounds_self_of_lt (by omega)]
     ·rw [Array.getElem?_setIfInBounds_ne e]
      exact hnf j (by omega) hjf
    ·intro j hj hjl
     rw [Array.getElem?_setIfInBounds_ne (by omega)]
     exact hB j (by omega) hjl
   ·exfalso
    obtain ⟨e,he,hb,hon⟩:=hch i _ him ho
    have h5:=hrd' e he hb
    rw [hon,hB (i - 1) (by omega) (by omega)] at h5
    cases h5
end
end Go.Ab
namespace Go.Ab
open Go.RowKit Go.Shelf Go.Proofs Go.Eng

def flatL (n:Nat) : AV→Bool
 | .int _ _=>true
 | .bool _=>true
 | .str _=>true
 | .nils=>true
 | .nilp=>true
 | .nilf=>true
 | .nili=>true
 | .nilm=>true
 | .val _=>true
 | .map i=>Nat.blt i n
 | .osl i=>Nat.blt i n
 | .ptr i _=>Nat.blt i n
 | .sog i=>Nat.blt i n
 | _=>false
theorem flat_down {m m0:Mem}{ρ ρ2:List Value}{T:AV}{v:Value}(hT:flatL ρ.length T=true) (hp:∀ (i:Nat) (h:Value),ρ[i]?=some h→ρ2[i]?=some h) (h:RepA m ρ2 T v) : RepA m0 ρ T v:=by
 have back : ∀ {i:Nat} {u:Value},i < ρ.length→ρ2[i]?=some u→ρ[i]?=some u:=by
  intro i u hi hu
  have h1 : ρ[i]?=some (ρ[i]'hi):=List.getElem?_eq_getElem hi
  rw [hp _ _ h1] at hu
  rw [h1,hu]
 cases T <;> simp only [flatL,Bool.false_eq_true,Nat.blt_eq] at hT <;> simp only [RepA] at h ⊢ <;> first
  | exact h
  | exact ⟨back hT h.1,h.2⟩
  | (obtain ⟨b,h1,h2⟩:=h; exact ⟨b,back hT h1,h2⟩)

section
variable {P:Program} {N:Ev} {X:Cx} {Q:zBa} {st:AS}

def lateB (ops:List Oper) (Ts:List TT) (q n:Nat) (op:Oper) (ks2 fl:List Nat) : Bool:=zCn (fl.map (zBm ops))&&fl.all fun j=>Nat.blt j q&&flatL n (zBL Ts j).2&&(zBL Ts j).1&&!memB (zBm ops j) ks2&&(match op.dst with
 | some d=>!Nat.beq d (zBm ops j)
 | none=>true)&&(match ops[j]? with
 | some o=>o.guard.isNone&&(match o.dst with
  | some d=>Nat.beq d (zBm ops j)&&Nat.blt d N.n
  | none=>false)
 | none=>false)&&(match ops[q+1]? with
 | some o=>o.after.toList.any fun e=>Region.binds .any e&&Nat.beq e.on j
 | none=>false)

def lateD (ops:List Oper) (dl:List (List Nat)) (fl:List Nat) : Bool:=fl.all fun j=>((dl[j]?).getD []).all fun k=>memB k fl&&(match ops[j]? with
 | some o=>o.after.toList.any fun e=>Region.binds .any e&&Nat.beq e.on k
 | none=>false)
def LateV (P:Program) (N:Ev) (ops:List Oper) (Ts:List TT) (dl:List (List Nat)) (l:AFr) (H:AH) (n:Nat) : List Nat→Prop
 | []=>True
 | j::r=>(∀ X' o,ops[j]?=some o→AOpV P N X' o (zBL Ts j).2 ⟨zBR ops Ts ((dl[j]?).getD []) l,H,n⟩)∧LateV P N ops Ts dl l H n r
theorem LateV.at {ops:List Oper}{Ts:List TT}{dl:List (List Nat)}{l:AFr}{H:AH}{n:Nat} : ∀ {fl:List Nat},LateV P N ops Ts dl l H n fl→∀ j∈fl,∀ X' o,ops[j]?=some o→AOpV P N X' o (zBL Ts j).2 ⟨zBR ops Ts ((dl[j]?).getD []) l,H,n⟩:=by
 intro fl
 induction fl with
 | nil=>intro _ j hj; simp at hj
 | cons a r ih =>
  intro h j hj
  rcases List.mem_cons.1 hj with rfl | hj
  ·exact h.1
  ·exact ih h.2 j hj

theorem late_frame {ops:List Oper}{Ts:List TT}{a:Act}{H:AH}{n:Nat}{W:World}{m:Mem}{ρ:List Value}{φ:List Frag} : ∀ {js:List Nat}{lA:AFr}{l:Fr},Conc X ⟨lA,H,n⟩ l W m ρ φ→Holds N l a→(∀ j∈js,∃ v,a.tmps[zBm ops j]?=some v∧RepA m ρ (zBL Ts j).2 v)→∃ l',Holds N l' a∧Conc X ⟨zBR ops Ts js lA,H,n⟩ l' W m ρ φ:=by
 intro js
 induction js with
 | nil=>intro lA l hc hl _; exact ⟨l,hl,hc⟩
 | cons j r ih =>
  intro lA l hc hl h
  obtain ⟨v,h1,h2⟩:=h j (by simp)
  refine ih (l:=(zBm ops j,v)::l) (hc.put (st:=⟨lA,H,n⟩) h2) ⟨hl.size,fun t u ht=>?_⟩ fun q hq=>h q (by simp [hq])
  rw [Fr.look_cons] at ht
  split at ht
  ·rename_i e; subst e; cases ht; exact h1
  ·exact hl.slot t u ht

def subS (l:AFr) : AFr→Prop
 | []=>True
 | (t,a)::r=>l.look t=some a∧subS l r
def subH (H:AH) : AH→Prop
 | []=>True
 | (i,o)::r=>H.get i=o∧subH H r
theorem subS_get {l:AFr} : ∀ {l':AFr},subS l l'→∀ t a,l'.look t=some a→l.look t=some a:=by
 intro l'
 induction l' with
 | nil=>intro _ t a h; simp [AFr.look] at h
 | cons p r ih =>
  intro h t a ht
  rw [AFr.look_cons] at ht
  split at ht
  ·rename_i e; subst e; cases ht; exact h.1
  ·exact ih h.2 t a ht
theorem subH_get {H:AH} : ∀ {H':AH},subH H H'→∀ i,memB i (H'.map (·.1))=true→H.get i=H'.get i:=by
 intro H'
 induction H' with
 | nil=>intro _ i h; simp [memB] at h
 | cons p r ih =>
  intro h i hi
  obtain ⟨j,o⟩:=p
  rw [AH.get_cons]
  by_cases e : j=i
  ·subst e; rw [if_pos rfl]; exact h.1
  ·rw [if_neg e]
   refine ih h.2 i ?_
   simp only [List.map_cons,memB,Bool.or_eq_true] at hi
   rcases hi with hi | hi
   ·exact absurd (Nat.eq_of_beq_eq_true hi).symm e
   ·exact hi
def SubA (s st2:AS) : Prop:=subS s.l st2.l∧subH s.H st2.H∧s.n=st2.n
def compH (st2:AS) : Bool:=(List.range st2.n).all fun i=>memB i (st2.H.map (·.1))
theorem conc_sub {s st2:AS}{fr:Fr}{w:World}{m:Mem}{ρ:List Value}{φ:List Frag}(h:Conc X s fr w m ρ φ) (hs:SubA s st2) (hc:compH st2=true) : Conc X st2 fr w m ρ φ:=by
 refine ⟨h.mle,h.pre,by rw [← hs.2.2]; exact h.nρ,by rw [← hs.2.2]; exact h.nφ,fun t a ha=>h.slots t a (subS_get hs.1 t a ha),fun i hd f hi hf=>?_,h.sh⟩
 have hil:=(List.getElem?_eq_some_iff.1 hi).1
 rw [h.nρ,hs.2.2] at hil
 rw [← subH_get hs.2.1 i ((List.all_eq_true.1 hc) i (List.mem_range.2 hil))]
 exact h.objs i hd f hi hf

theorem zCV {id:Nat}{ops:List Oper}(q:Nat) (fl nx:List Nat) (dl:List (List Nat)) (hm:P.follows .mixedOrders=true) (ks:List Nat) (Ts:List TT) (dep:List (List Nat)) (live:List Nat) (ks2:List Nat){op:Oper}{st2:AS}(hks:(ks.all fun t=>(st.l.look t).isSome)=true) (hq:Nat.blt q ops.length=true) (hok:drawOkK N.n (ops.take q) dep ks=true) (hch:(consecOk q ops&&nextL q ops fl nx)=true) (hback:backOk ops=true) (hTs:Nat.beq Ts.length q=true) (hlv:(live.all fun i=>Nat.blt i q&&!memB i fl)=true) (hdp:depsOk (ops.take q) (live::dep)=true)
  (hop:ops[q]?=some op) (hgu:op.guard=none) (hlb:lateB (N:=N) ops Ts q st.n op ks2 fl=true) (hks2:(ks2.all fun t=>(st2.l.look t).isSome)=true)
  (hob:AObs P N X (ops.take q) Ts (zBJ st.l ks) st.H st.n (ops.take q) Ts dep) (hall:∀ j∈live,(zBL Ts j).1=true)
  (hld:lateD ops dl fl=true) (hlate:LateV P N ops Ts dl (zBJ st2.l ks2) st2.H st2.n fl) (hcomp:compH st2=true) (hrun:∀ X',AOp P N X' op (fun s=>SubA s st2) ⟨zBR (ops.take q) Ts live (zBJ st.l ks),st.H,st.n⟩)
  (k:AWL P N X ops.toArray Q (ops.drop (q+1)) ⟨zBR ops Ts fl (zBJ st2.l ks2),st2.H,st2.n⟩) : AWC P N X (.region id ops.toArray true) Q st:=by
 intro fr w m ρ φ hc
 obtain ⟨lb,h1,h2,h3⟩:=zC2 hc hks
 have hq' : q < ops.length:=by simpa using hq
 have hl : Ts.length=(ops.take q).length:=by rw [Nat.eq_of_beq_eq_true hTs,List.length_take]; omega
 have hTl:=Nat.eq_of_beq_eq_true hTs
 simp only [depsOk,List.all_cons,Bool.and_eq_true] at hdp
 rw [Bool.and_eq_true] at hch
 simp only [lateB,Bool.and_eq_true,List.all_eq_true] at hlb
 obtain ⟨hnd,hlb⟩:=hlb
 have hnd:=zCS hnd
 have hfl : ∀ j∈fl,j < q:=fun j hj=>by have:=(hlb j hj).1.1.1.1.1.1; simpa using this
 have hflat : ∀ j∈fl,flatL ρ.length (zBL Ts j).2=true:=fun j hj=>by rw [hc.nρ]; exact (hlb j hj).1.1.1.1.1.2
 have htt : ∀ j∈fl,(zBL Ts j).1=true:=fun j hj=>(hlb j hj).1.1.1.1.2
 have hk2 : ∀ j∈fl,memB (zBm ops j) ks2=false:=fun j hj=>by have:=(hlb j hj).1.1.1.2; simpa using this
 have hpd : ∀ j∈fl,∀ d,op.dst=some d→d≠zBm ops j:=fun j hj d hd=>by
  have:=(hlb j hj).1.1.2
  rw [hd] at this
  intro e; subst e; simp at this
 have hod : ∀ j∈fl,∀ o,ops[j]?=some o→o.guard=none∧o.dst=some (zBm ops j)∧zBm ops j < N.n:=fun j hj o ho=>by
  have:=(hlb j hj).1.2
  rw [ho] at this
  simp only [Bool.and_eq_true] at this
  obtain ⟨g1,g2⟩:=this
  cases hd : o.dst with
  | none=>rw [hd] at g2; cases g2
  | some d =>
   rw [hd] at g2
   simp only [Bool.and_eq_true] at g2
   have e:=Nat.eq_of_beq_eq_true g2.1
   subst e
   exact ⟨by simpa using g1,rfl,by simpa using g2.2⟩
 have hb2 : ∀ j∈fl,∃ o,ops[q+1]?=some o∧∃ e∈o.after,Region.binds .any e=true∧e.on=j:=fun j hj=>by
  have:=(hlb j hj).2
  split at this
  ·rename_i o ho
   rw [List.any_eq_true] at this
   obtain ⟨e,he,hb⟩:=this
   simp only [Bool.and_eq_true] at hb
   exact ⟨o,ho,e,Array.mem_toList_iff.1 he,hb.1,Nat.eq_of_beq_eq_true hb.2⟩
  ·cases this
 let X' : Cx:=⟨X.e,m,ρ,X.F⟩
 have toX' : ∀ {s:AS} {fr:Fr} {W:World} {m1:Mem} {φ1:List Frag},m.le m1→Conc X s fr W m1 ρ φ1→Conc X' s fr W m1 ρ φ1:=fun hm h=>⟨hm,fun i h hi=>hi,h.nρ,h.nφ,h.slots,h.objs,h.sh⟩
 have ofX' : ∀ {s:AS} {fr:Fr} {W:World} {m1:Mem} {ρ1:List Value} {φ1:List Frag},Conc X' s fr W m1 ρ1 φ1→Conc X s fr W m1 ρ1 φ1:=fun h=>⟨hc.mle.trans h.mle,fun i u hi=>h.pre i u (hc.pre i u hi),h.nρ,h.nφ,h.slots,h.objs,h.sh⟩
 intro a ha hg
 refine wpIn_region_any hm ?_
 refine draw_late (w:={ w with drawn:=w.drawn+1 }) (Φ:=Ts.map (phi X.e m ρ (φ.flatten++X.F))) (dep:=dep) (lb:=lb) hq' (draw_keys (by rw [h1]; exact hok)) (consec_of hch.1) (back_of hback) hfl hch.2 (by rw [List.length_map]; exact hTl) (monos_phi Ts) ((obs_of hl h3 hdp.2 hob).drawn zBt) (live:=live) ?_ hop hgu ?_ (Ψ:=fun j v=>RepA (fun _=>none) ρ (zBL Ts j).2 v) ?_
  (R:=fun l2 W2=>l2.map (·.1)=ks2∧∃ m2 ρ2 φ2,Conc X' ⟨zBJ st2.l ks2,st2.H,st2.n⟩ l2 W2 m2 ρ2 φ2) ?_ hb2 ?_ _ _ _ _ ?_ (by simp) ?_ ?_ ?_
 ·intro j hj
  have:=(List.all_eq_true.1 hlv) j hj
  simp only [Bool.and_eq_true] at this
  exact ⟨by simpa using this.1,fun hc=>by have h:=this.2; rw [memB_iff.2 hc] at h; cases h⟩
 ·intro j hj o ho
  refine ⟨_,(hod j hj o ho).2.1,fun e=>hpd j hj _ e rfl⟩
 ·intro j hj φj hφ v W hv
  have hjl : j < Ts.length:=by rw [hTl]; exact hfl j hj
  rw [List.getElem?_map,List.getElem?_eq_getElem hjl] at hφ
  simp only [Option.map_some,Option.some.injEq] at hφ
  have htj : zBL Ts j=Ts[j]:=by simp only [zBL,List.getElem?_eq_getElem hjl]
  rw [← hφ,← htj] at hv
  obtain ⟨m',g1,g2,g3⟩:=hv.1 (htt j hj)
  exact flat_down (hflat j hj) (fun _ _ h=>h) g3
 ·intro W hW
  refine zC3 (phi_at hl) hdp.1 fun l' hl'=>?_
  obtain ⟨m',g4,g5⟩:=conc_df hl' (Mem.le_refl _) (h3.grow (Mem.le_refl _) (h3.sh.ext (zBt.drawn _ _ hW))) hall
  intro a1 ha1 hg1
  refine Oper.wpIn_mono ?_ (hrun X' (upQ X Q) _ _ _ _ _ (toX' g4 g5) a1 ha1 hg1)
  rintro a2 W2 ⟨l2,hl2,hg2,st',m2,ρ2,φ2,g6,g7⟩
  have g6:=conc_sub g6 g7 hcomp
  obtain ⟨lb2,q1,q2,q3⟩:=zC2 g6 hks2
  exact ⟨lb2,hl2.sub q2,hg2,q1,m2,ρ2,φ2,q3⟩
 ·rintro l2 W2 ⟨hk,m2,ρ2,φ2,hc2⟩
  refine ⟨⟨fun j hj o ho=>⟨(hod j hj o ho).1,zBm ops j,(hod j hj o ho).2.1,(hod j hj o ho).2.2,?_,?_,?_⟩⟩,?_⟩
  ·have:=look_keys (l:=l2) (d:=zBm ops j)
   rw [hk,hk2 j hj] at this
   simpa using this
  ·intro j' hj' o' ho' hd'
   have h5:=(hod j' hj' o' ho').2.1
   rw [hd'] at h5
   have h6 : zBm ops j=zBm ops j':=by simpa using h5
   obtain ⟨p,hp⟩:=List.getElem?_of_mem hj
   obtain ⟨p',hp'⟩:=List.getElem?_of_mem hj'
   have e1 : (fl.map (zBm ops))[p]?=some (zBm ops j):=by rw [List.getElem?_map,hp]; rfl
   have e2 : (fl.map (zBm ops))[p']?=some (zBm ops j):=by rw [List.getElem?_map,hp',h6]; rfl
   have l1:=(List.getElem?_eq_some_iff.1 e1).1
   have:=(List.getElem?_inj l1 hnd).1 (e1.trans e2.symm)
   subst this
   rw [hp] at hp'; cases hp'; rfl
  ·have hldj:=(List.all_eq_true.1 hld) j hj
   rw [List.all_eq_true] at hldj
   have hdk : ∀ k∈(dl[j]?).getD [],k∈fl∧∃ e∈o.after,Region.binds .any e=true∧e.on=k:=fun k hk=>by
    have:=hldj k hk
    rw [Bool.and_eq_true,ho] at this
    obtain ⟨u1,u2⟩:=this
    simp only [List.any_eq_true] at u2
    obtain ⟨e,he,hb⟩:=u2
    simp only [Bool.and_eq_true] at hb
    exact ⟨memB_iff.1 u1,e,Array.mem_toList_iff.1 he,hb.1,Nat.eq_of_beq_eq_true hb.2⟩
   refine ⟨_,hdk,fun a1 W hW ha1 hg1 hfs=>?_⟩
   have hcW:=hc2.grow (Mem.le_refl _) (hc2.sh.ext hW)
   obtain ⟨l',g1,g2⟩:=late_frame (ops:=ops) (Ts:=Ts) (a:=a1) (js:=(dl[j]?).getD []) hcW ha1 (fun k hk=>by
    have hkl : k < ops.length:=by have:=hfl k (hdk k hk).1; omega
    obtain ⟨d,v,g1,g2,g3⟩:=hfs k hk _ (List.getElem?_eq_getElem hkl)
    have hd0:=(hod k (hdk k hk).1 _ (List.getElem?_eq_getElem hkl)).2.1
    rw [g1] at hd0; cases hd0
    exact ⟨v,g2,RepA.mono (fun b o h=>by cases h) (fun i h hi=>hc2.pre i h hi) _ g3⟩)
   refine ⟨l',g1,?_⟩
   have hv:=hlate.at j hj X' o ho (upQ X Q) _ _ _ _ _ g2
   intro a2 ha2 hg2
   refine Oper.wpIn_mono ?_ (hv a2 ha2 hg2)
   rintro a3 W3 ⟨l3,hl3,hg3,d,v,hd,rfl,hB,m3,_,_,hr⟩
   have hd0:=(hod j hj o ho).2.1
   rw [hd] at hd0; cases hd0
   exact ⟨_,hl3,hg3,⟨v,by rw [Fr.look_cons,if_pos rfl],flat_down (hflat j hj) (fun i h hi=>hc2.pre i h hi) hr⟩,hB⟩
  ·intro a1 W hW ha1 hg1 hfs
   have hcW:=hc2.grow (Mem.le_refl _) (hc2.sh.ext hW)
   obtain ⟨l',g1,g2⟩:=late_frame (ops:=ops) (Ts:=Ts) (a:=a1) (js:=fl) hcW ha1 (fun j hj=>by
    have hjl : j < ops.length:=by have:=hfl j hj; omega
    obtain ⟨d,v,g1,g2,g3⟩:=hfs j hj _ (List.getElem?_eq_getElem hjl)
    have hd0:=(hod j hj _ (List.getElem?_eq_getElem hjl)).2.1
    rw [g1] at hd0; cases hd0
    exact ⟨v,g2,RepA.mono (fun b o h=>by cases h) (fun i h hi=>hc2.pre i h hi) _ g3⟩)
   exact k _ _ _ _ _ (ofX' g2) a1 g1 hg1
 ·refine ⟨zBt.refl _,ha.sub h2,hg.step rfl (fun _ _ h _ _=>h) (Nat.le_refl _),?_⟩
  intro i o φ _ _ hi
  simp [Array.getElem?_replicate] at hi
 ·intro i o _ hi
  simp [Array.getElem?_replicate] at hi
 ·intro j hj hjl
  simp [Array.getElem?_replicate,hjl]
 ·simp
end
end Go.Ab
namespace Go.Ab
open Go.RowKit Go.Shelf Go.Proofs Go.Eng

section
variable {P:Program} {N:Ev} {X:Cx} {Q:zBa} {st:AS}
variable {d:Nat} {T U T':TypeId} {pos:String} {aft:Array Edge} {g:Option (Nat×Bool)} {x y:Operand}
theorem ptr_equal {E:TypeId}{w:World}(hU:Und P T (.pointer E)) (p q:Option Addr) (hq:q=none) : (Op.equal T (.pointer p) (.pointer q)).run P w=.ok p.isNone w:=by
 subst hq
 unfold Op.equal
 rw [show Op.maxDepth=9999+1 from rfl]
 unfold Op.equalIn
 cases p <;> simp [run_underlying hU]
theorem av_ptrnil {E:TypeId}{i o:Nat}(hU:Und P T (.pointer E)) (hx:aev st.l x=some (.ptr i o)) (hy:aev st.l y=some .nilp) (hN:Nat.blt d N.n=true:=by rfl) : AOpV P N X ⟨some d,.binOp .eql T x y T',U,pos,aft,g⟩ (.bool false) st :=
 zA6 rfl fun Q fr w m ρ φ hc=>by
  obtain ⟨v,h1,h2⟩:=hc.ev hx
  obtain ⟨u,h3,h4⟩:=hc.ev hy
  simp only [RepA] at h2 h4
  obtain ⟨b,_,rfl⟩:=h2
  subst h4
  refine ⟨_,zAx,fun K hk=>zAo rfl hN (fun ac ha=>?_) hk⟩
  have he:=ptr_equal (w:=w) hU (some ⟨b,o,none⟩) none rfl
  simp [execOp,eqGuard,binOp,ha.eval h1,ha.eval h3,he]
theorem av_nilnil {E:TypeId}(hU:Und P T (.pointer E)) (hx:aev st.l x=some .nilp) (hy:aev st.l y=some .nilp) (hN:Nat.blt d N.n=true:=by rfl) : AOpV P N X ⟨some d,.binOp .eql T x y T',U,pos,aft,g⟩ (.bool true) st :=
 zA6 rfl fun Q fr w m ρ φ hc=>by
  obtain ⟨v,h1,h2⟩:=hc.ev hx
  obtain ⟨u,h3,h4⟩:=hc.ev hy
  simp only [RepA] at h2 h4
  subst h2 h4
  refine ⟨_,zAx,fun K hk=>zAo rfl hN (fun ac ha=>?_) hk⟩
  have he:=ptr_equal (w:=w) hU none none rfl
  simp [execOp,eqGuard,binOp,ha.eval h1,ha.eval h3,he]
end
end Go.Ab
namespace Go.Ab
open Go.RowKit Go.Shelf Go.Proofs Go.Eng

section
variable {P:Program} {N:Ev} {X:Cx} {Q:zBa} {st:AS}
variable {d:Nat} {U:TypeId} {pos:String} {aft:Array Edge} {g:Option (Nat×Bool)}
theorem aop_callOv {f:FuncId}{fx:Operand}{first caps:List AV}{xs:List Operand}{as1 as' rs:List AV}{H1 H':List AO}{σ:List Nat}{ts:Array TypeId}{K:AS→Prop}{r:AV}(hfx:aev st.l fx=some (.fn f first caps)) (hr:RunsM X.m P f as1 H1 fun q Hq=>q=rs∧Hq=H') (hf:Enters P f) (hx:xs.map (aev st.l)=as'.map some) (hcv:cvL (renL σ as1) (first++as'++caps)) (hσ:(zCn σ&&σ.all fun i=>Nat.blt i st.n)=true) (hH:σ.map st.H.get=H1.map (AO.ren σ))
  (hrs:tupA (renL (σ++zCD st.n (H'.length - σ.length)) rs)=r) (k:K ⟨(d,r)::st.l,updH 0 (σ++zCD st.n (H'.length - σ.length)) (H'.map (AO.ren (σ++zCD st.n (H'.length - σ.length)))) st.H,st.n+(H'.length - σ.length)⟩) (hN:Nat.blt d N.n=true:=by rfl) :
  AOp P N X ⟨some d,.call ⟨.value fx,xs.toArray,ts⟩,U,pos,aft,g⟩ K st :=
 zBH fun Q fr w m ρ φ hc K' hK=>by
  obtain ⟨vs,h1,h2⟩:=hc.evl hx
  obtain ⟨v,h3,h4⟩:=hc.ev hfx
  simp only [RepA] at h4
  obtain ⟨us,ws,rfl,h5,h6⟩:=h4
  have hσ':=hσ
  rw [Bool.and_eq_true] at hσ'
  refine op_callv (args:=(us++vs++ws).toArray) h3 hf h1 (by simp) (ret_own hr hc hσ hH (cvL_rep hcv ((h5.app h2).app h6))) hN ?_
  rintro v w' ⟨rs',H'',m',ρ1',φ1',⟨rfl,rfl⟩,g1,g2,g3,g4,g5,us,g6,rfl⟩
  subst hrs
  obtain ⟨ρ',φ',hcc⟩:=conc_call (d:=d) (av:=tupA (renL (σ++zCD st.n (H''.length - σ.length)) rs')) (v:=zBg us) hc (zCS hσ'.1) (fun i hi=>by have:=hσ'.2; rw [List.all_eq_true] at this; simpa using this i hi) g1 g2 g3 g4 g5 (fun ρ' hb=>zBM (zCH hb _ g6))
  exact hK _ _ _ _ _ _ hcc k
end
end Go.Ab
namespace Go.Ab
open Go.RowKit Go.Shelf Go.Proofs Go.Eng

theorem dm_cases {m:Mem}{tk tv:Ty}{x:List (tk.den×tv.den)}{v:Value}(h:RC m (.map tk tv) x [v]) : (x=[]∧v=.map none)∨∃ x',x'.Perm x∧∃ b es cl,v=.map (some b)∧m b=some (.map es cl)∧EntM m tk tv x' es cl:=by
 rcases h with ⟨h1,h2⟩ | ⟨x',hp,b,es,cl,h1,h2,h3⟩
 ·exact .inl ⟨h1,by simpa using h2⟩
 ·exact .inr ⟨x',hp,b,es,cl,by simpa using h1,h2,h3⟩
theorem entM_L {m:Mem}{tk tv:Ty}{x:List (tk.den×tv.den)}{es:Array MapEntry}{cl:Nat}(h:EntM m tk tv x es cl) : EntL m tk tv x es.toList:=ent_of h.1 h.2.2.2

section
variable {P:Program} {N:Ev} {X:Cx} {Q:zBa} {st:AS}
variable {d:Nat} {T U T':TypeId} {pos:String} {aft:Array Edge} {g:Option (Nat×Bool)} {x y z:Operand} {k ky:IntKind} {a b:Int}

theorem run_lookupN {w:World}{m:Mem}{tk tv:Ty} [DecidableEq tk.den] {kx:tk.den}{kT eT:Nat}{v:Value}{ok:Bool}(hU:Und P T (.map kT eT)) (hK:KeyT P kT tk) (hZ:ZeroW P eT tv) (hk:RV m tk kx v) :
  ∃ u,RV m tv tv.dflt u∧(Instr.lookup T (.map none) v ok).run P w=.ok (if ok then .tuple #[u,.bool false] else u) w:=by
 obtain ⟨r,h1,h2⟩:=hK.find m kx v tv [] [] w hk trivial
 have h3:=hK.chk m kx v true w hk
 obtain ⟨zv,h4,h5⟩:=hZ
 cases r with
 | some q=>obtain ⟨q,u⟩:=q; obtain ⟨y,h6,_⟩:=h2; simp [mget] at h6
 | none =>
  refine ⟨zv,h5 m,?_⟩
  simp only [Instr.lookup,Sem.run_bind,run_underlying hU,Result.andThen_ok,Sem.run_pure,Array.isEmpty_empty,h3,h1,h4 w]
theorem dm_lookup {fr:Fr}{w:World}{m:Mem}{ρ:List Value}{φ:List Frag}(hc:Conc X st fr w m ρ φ){kT eT:Nat}{tk tv:Ty} [DecidableEq tk.den] {xs:List (tk.den×tv.den)}{kx:tk.den}{v u:Value}{ok:Bool}(hU:Und P T (.map kT eT)) (hK:KeyT P kT tk) (hZ:ZeroW P eT tv) (hv:RepA m ρ (.dm tk tv xs) v) (hk:RV m tk kx u) :
  ∃ q,RV m tv ((mget xs kx).getD tv.dflt) q∧(Instr.lookup T v u ok).run P w=.ok (if ok then .tuple #[q,.bool (mget xs kx).isSome] else q) w:=by
 simp only [RepA] at hv
 rcases dm_cases hv with ⟨rfl,rfl⟩ | ⟨xs',hp,b,es,cl,rfl,h1,h2⟩
 ·exact run_lookupN (w:=w) hU hK hZ hk
 ·rw [← zDV hp h2.2.1]; exact run_lookup hU hK hZ (hc.sh.fz _ _ h1) (entM_L h2) hk
theorem zBA {kT eT:Nat}{tk tv:Ty} [DecidableEq tk.den] {xs:List (tk.den×tv.den)}{kx:tk.den}{r:AV}(hU:Und P T (.map kT eT)) (hK:KeyT P kT tk) (hZ:ZeroW P eT tv) (hx:aev st.l x=some (.dm tk tv xs)) (hy:aev st.l y=some (zBx tk kx)) (hno:tk.noArr=true) (hr:zBx tv ((mget xs kx).getD tv.dflt)=r) (hN:Nat.blt d N.n=true:=by rfl) :
  AOpV P N X ⟨some d,.lookup T x y false,U,pos,aft,g⟩ r st :=
 zA6 rfl fun Q fr w m ρ φ hc=>by
  subst hr
  obtain ⟨v,h1,h2⟩:=hc.ev hx
  obtain ⟨u,h3,h4⟩:=hc.ev hy
  obtain ⟨q,h7,h8⟩:=dm_lookup (ok:=false) hc hU hK hZ h2 (zCm (fit_noArr hno) h4)
  refine ⟨q,zB2 h7,fun K hk=>zAo rfl hN (fun ac ha=>?_) hk⟩
  simp only [execOp,ha.eval h1,ha.eval h3]
  rw [Sem.run_bind,h8]; rfl
theorem zDS {kT eT:Nat}{tk tv:Ty} [DecidableEq tk.den] {xs:List (tk.den×tv.den)}{kx:tk.den}{r:AV}(hU:Und P T (.map kT eT)) (hK:KeyT P kT tk) (hZ:ZeroW P eT tv) (hx:aev st.l x=some (.dm tk tv xs)) (hy:aev st.l y=some (zBx tk kx)) (hno:tk.noArr=true) (hr:.tup [zBx tv ((mget xs kx).getD tv.dflt),.bool (mget xs kx).isSome]=r) (hN:Nat.blt d N.n=true:=by rfl) :
  AOpV P N X ⟨some d,.lookup T x y true,U,pos,aft,g⟩ r st :=
 zA6 rfl fun Q fr w m ρ φ hc=>by
  subst hr
  obtain ⟨v,h1,h2⟩:=hc.ev hx
  obtain ⟨u,h3,h4⟩:=hc.ev hy
  obtain ⟨q,h7,h8⟩:=dm_lookup (ok:=true) hc hU hK hZ h2 (zCm (fit_noArr hno) h4)
  refine ⟨.tuple #[q,.bool (mget xs kx).isSome],?_,fun K hk=>zAo rfl hN (fun ac ha=>?_) hk⟩
  ·simp only [RepA]; exact ⟨[q,.bool (mget xs kx).isSome],rfl,by simp only [RepL]; exact ⟨zB2 h7,zAx,trivial⟩⟩
  ·simp only [execOp,ha.eval h1,ha.eval h3]
   rw [Sem.run_bind,h8]; rfl
theorem zip_left {α:Type}{x:List α}{es:Array MapEntry}(hl:es.toList.length=x.length) : ((x.zip es.toList).filter fun q=>!(#[] : Array Nat).contains q.2.born).map (·.1)=x:=by
 rw [List.filter_eq_self.2 (by intro a _; simp)]
 rw [List.map_fst_zip (by omega)]
theorem aop_range_dm {kT eT:Nat}{tk tv:Ty}{xs:List (tk.den×tv.den)}{K:AS→Prop}(hU:Und P T (.map kT eT)) (hx:aev st.l x=some (.dm tk tv xs))
  (k:∀ xs',xs'.Perm xs→K (st.new d (.map st.n) (.mit tk tv xs' none))) (hN:Nat.blt d N.n=true:=by rfl) : AOp P N X ⟨some d,.range T x,U,pos,aft,g⟩ K st :=
 zBH fun Q fr w m ρ φ hc K' hK'=>by
  obtain ⟨v,h1,h2⟩:=hc.ev hx
  simp only [RepA] at h2
  rcases dm_cases h2 with ⟨rfl,rfl⟩ | ⟨xs',hp,b,es,cl,rfl,hb,hE⟩
  ·have k:=k [] (List.Perm.refl _)
   refine zAo (v:=.pointer (some ⟨w.heap.size,0,none⟩)) (w':=w.alloc (.mapIter none 0 #[] 0)) rfl hN (fun ac ha=>?_) ?_ (dk_new (zBh w (.mapIter none 0 #[] 0)))
   ·simp only [execOp,ha.eval h1]
    rw [Sem.run_bind,run_range_nilMap w T kT eT hU]; rfl
   ·refine hK' _ _ _ _ _ _ (hc.newObj (h:=.pointer (some ⟨w.heap.size,0,none⟩)) (f:=[(w.heap.size,.mapIter none 0 #[] 0)]) (Mem.le_refl _) (hc.sh.alloc (zBh w _) rfl) ?_ ?_) k
    ·exact .inl ⟨_,_,_,_,rfl,rfl,rfl,rfl⟩
    ·simp only [RepA]; exact ⟨by rw [← hc.nρ]; simp,rfl⟩
  ·have k:=k xs' hp
   refine zAo (v:=.pointer (some ⟨w.heap.size,0,none⟩)) (w':=w.alloc (.mapIter (some b) cl #[] cl)) rfl hN (fun ac ha=>?_) ?_ (dk_new (zBh w (.mapIter (some b) cl #[] cl)))
   ·simp only [execOp,ha.eval h1]
    rw [Sem.run_bind,run_range_map w T kT eT b es cl hU (hc.sh.fz _ _ hb)]; rfl
   ·refine hK' _ _ _ _ _ _ (hc.newObj (h:=.pointer (some ⟨w.heap.size,0,none⟩)) (f:=[(w.heap.size,.mapIter (some b) cl #[] cl)]) (Mem.le_refl _) (hc.sh.alloc (zBh w _) rfl) ?_ ?_) k
    ·exact .inr ⟨b,es,cl,_,cl,cl,#[],xs',rfl,hb,rfl,hE,⟨(zip_left hE.1).symm,fun p hp=>by cases hp⟩,hE.2.2.1.2,Nat.le_refl _,Nat.le_refl _⟩
    ·simp only [RepA]; exact ⟨by rw [← hc.nρ]; simp,rfl⟩

theorem filter_one {α:Type} : ∀ {l:List (α×MapEntry)}{j:Nat}{q:α×MapEntry},(l.map (·.2.born)).Nodup→l[j]?=some q→l.filter (fun p=>!(p.2.born == q.2.born))=l.eraseIdx j:=by
 intro l
 induction l with
 | nil=>intro j q _ h; simp at h
 | cons a l ih =>
  intro j q hn h
  rw [List.map_cons,List.nodup_cons] at hn
  cases j with
  | zero =>
   simp at h; subst h
   rw [List.filter_cons_of_neg (by simp),List.eraseIdx_zero,List.tail_cons]
   refine List.filter_eq_self.2 fun p hp=>?_
   have : p.2.born≠a.2.born:=fun e=>hn.1 (List.mem_map.2 ⟨p,hp,e⟩)
   simpa using this
  | succ j =>
   have h' : l[j]?=some q:=by simpa using h
   have : a.2.born≠q.2.born:=fun e=>hn.1 (List.mem_map.2 ⟨q,List.mem_of_getElem? h',e.symm⟩)
   rw [List.filter_cons_of_pos (by simpa using this),List.eraseIdx_cons_succ,ih hn.2 h']
theorem zip_snd {α:Type}{x:List α}{es:List MapEntry}(hl:es.length=x.length) : (x.zip es).map (·.2)=es:=List.map_snd_zip (by omega)
theorem left_snd {α:Type}{x:List α}{es:Array MapEntry}{seen:Array Nat}(hl:es.toList.length=x.length) : (((x.zip es.toList).filter fun q=>!seen.contains q.2.born).map (·.2))=(leftOf es seen).toList:=by
 unfold leftOf
 rw [Array.toList_filter]
 have:=zip_snd hl
 conv=>rhs; rw [← this]
 rw [List.filter_map]
 rfl
theorem map_erase {α β:Type}(f:α→β) : ∀ {l:List α}{j:Nat},(l.map f).eraseIdx j=(l.eraseIdx j).map f:=by
 intro l
 induction l with
 | nil=>intro j; rfl
 | cons a l ih=>intro j; cases j with
  | zero=>rfl
  | succ j=>simp [ih]
theorem it_next {α:Type}{x:List α}{es:Array MapEntry}{cl:Nat}{seen:Array Nat}{left:List α}{cur:Option α}{now:Prop}(hl:es.toList.length=x.length) (hB:zCP es cl) (h:ItOk x es seen left cur now) :
  ((leftOf es seen).size=0→left=[])∧∀ e,e∈(leftOf es seen).toList→∃ (j:Nat) (p:α) (i:Nat),left[j]?=some p∧x[i]?=some p∧es.toList[i]?=some e∧ItOk x es (seen.push e.born) (left.eraseIdx j) (some p) True:=by
 have hs:=left_snd (seen:=seen) hl
 obtain ⟨h1,_⟩:=h
 obtain ⟨Z,hZ⟩ : ∃ Z,Z=(x.zip es.toList).filter fun q=>!seen.contains q.2.born:=⟨_,rfl⟩
 rw [← hZ] at hs h1
 refine ⟨fun h0=>?_,fun e he=>?_⟩
 ·have : (leftOf es seen).toList=[]:=by
   apply List.eq_nil_of_length_eq_zero; simpa using h0
  rw [this,List.map_eq_nil_iff] at hs
  rw [h1,hs]; rfl
 ·rw [← hs] at he
  obtain ⟨q,hq,rfl⟩:=List.mem_map.1 he
  obtain ⟨j,hj,hjq⟩:=List.getElem_of_mem hq
  have hjq' : Z[j]?=some q:=by rw [List.getElem?_eq_getElem hj,hjq]
  have hqz : q∈x.zip es.toList:=by rw [hZ] at hq; exact (List.mem_filter.1 hq).1
  obtain ⟨i,hi,hiq⟩:=List.getElem_of_mem hqz
  have hi1 : i < x.length:=by rw [List.length_zip] at hi; omega
  have hi2 : i < es.toList.length:=by omega
  rw [List.getElem_zip] at hiq
  have hx : x[i]?=some q.1:=by rw [List.getElem?_eq_getElem hi1]; rw [← hiq]
  have he2 : es.toList[i]?=some q.2:=by rw [List.getElem?_eq_getElem hi2]; rw [← hiq]
  refine ⟨j,q.1,i,by rw [h1,List.getElem?_map,hjq']; rfl,hx,he2,?_,fun p hp=>?_⟩
  ·have hnd : (Z.map (·.2.born)).Nodup:=by
    have : ((x.zip es.toList).map (·.2.born)).Nodup:=by
     have h3 : (x.zip es.toList).map (·.2.born)=es.toList.map (·.born):=by
      conv=>rhs; rw [← zip_snd hl]
      rw [List.map_map]; rfl
     rw [h3]; exact hB.1
    rw [hZ]; exact (List.filter_sublist.map _).nodup this
   have h4:=filter_one hnd hjq'
   have h5 : ((x.zip es.toList).filter fun p=>!(seen.push q.2.born).contains p.2.born)=Z.eraseIdx j:=by
    rw [← h4,hZ,List.filter_filter]
    refine List.filter_congr fun p _=>?_
    simp only [Array.contains_push,Bool.not_or]
    exact Bool.and_comm _ _
   rw [h5,h1,map_erase]
  ·cases hp
   exact ⟨i,q.2,hx,he2,by simp,trivial⟩
theorem setBlock_put {w:World}{r:Nat}{o o':Obj}(h:w.heap[r]?=some o) : Put w (ChangeMaps.setBlock w r o') r∧(ChangeMaps.setBlock w r o').heap[r]?=some o':=zDm h
theorem drew_sh {e w w1:World}{m:Mem}{f:Frag}(h:w1=w∨w1=w.drew) (hs:SH e w m f) : SH e w1 m f:=by
 rcases h with rfl | rfl
 ·exact hs
 ·exact ⟨hs.os,hs.tape,hs.output,hs.fz,hs.own,hs.nd,hs.dis,hs.noctl,hs.mctl,hs.esz⟩
theorem aop_next_dm {j:Nat}{tk tv:Ty}{left:List (tk.den×tv.den)}{cur:Option (tk.den×tv.den)}{K:AS→Prop}(hx:aev st.l x=some (.map j)) (hH:st.H.get j=.mit tk tv left cur)
  (k0:left=[]→K (st.put d (.tup [.bool false]))) (k1:∀ (q:Nat) (p:tk.den×tv.den),left[q]?=some p→K ((st.upd j (.mit tk tv (left.eraseIdx q) (some p))).put d (.tup [.bool true,zBx tk p.1,zBx tv p.2]))) (hN:Nat.blt d N.n=true:=by rfl) : AOp P N X ⟨some d,.next x false,U,pos,aft,g⟩ K st :=
 zBH fun Q fr w m ρ φ hc K' hK'=>by
  obtain ⟨v,h1,h2⟩:=hc.ev hx
  simp only [RepA] at h2
  obtain ⟨hρ,_⟩:=h2
  obtain ⟨f,hf,ho,hw⟩:=hc.obj hρ
  rw [hH] at ho
  rcases ho with ⟨r,since,c0,seen,rfl,rfl,rfl,rfl⟩ | ⟨b,es,cl,r,since,c0,seen,xs,rfl,g3,rfl,g4,g5,g6,g7,g8⟩
  ·have hwr : w.heap[r]?=some (.mapIter none since seen c0):=hw (r,_) (by simp)
   refine zAo (v:=.tuple #[.bool false]) (w':=w) rfl hN (fun ac ha=>?_) ?_
   ·simp only [execOp,ha.eval h1,Instr.next,getObj,Sem.run_bind,Sem.run,hwr]
    rfl
   ·refine hK' _ _ _ _ _ _ (hc.put ?_) (k0 rfl)
    simp only [RepA]; exact ⟨[.bool false],rfl,by simp only [RepL]; exact ⟨zAx,trivial⟩⟩
  ·have hwr : w.heap[r]?=some (.mapIter (some b) since seen c0):=hw (r,_) (by simp)
   have hwb : w.heap[b]?=some (.map es cl):=hc.sh.fz _ _ g3
   obtain ⟨n1,n2⟩:=it_next g4.1 g4.2.2.1 g5
   have hfr:=hc.front hf
   rcases run_next_at (P:=P) w U r b since c0 seen es cl hwr hwb g6 g7 with ⟨a1,a2⟩ | ⟨e,a1,w1,a2,a3⟩
   ·refine zAo (v:=.tuple #[.bool false]) (w':=w) rfl hN (fun ac ha=>?_) ?_
    ·simp only [execOp,ha.eval h1]
     rw [Sem.run_bind,a2]; rfl
    ·refine hK' _ _ _ _ _ _ (hc.put ?_) (k0 (n1 a1))
     simp only [RepA]; exact ⟨[.bool false],rfl,by simp only [RepL]; exact ⟨zAx,trivial⟩⟩
   ·obtain ⟨q,p,ix,b1,b2,b3,b4⟩:=n2 e a1
    have hw1 : w1.heap[r]?=some (.mapIter (some b) since seen c0):=by rcases a2 with rfl | rfl <;> exact hwr
    obtain ⟨hP,hb'⟩:=setBlock_put (o':=.mapIter (some b) since (seen.push e.born) cl) hw1
    have hfr1:=drew_sh a2 hfr
    have hs2 : SH X.e (ChangeMaps.setBlock w1 r (.mapIter (some b) since (seen.push e.born) cl)) m ([(r,.mapIter (some b) since (seen.push e.born) cl)]++((φ.eraseIdx j).flatten++X.F)):=hfr1.put hP hb' rfl
    have hdk : DK N.ex w (ChangeMaps.setBlock w1 r (.mapIter (some b) since (seen.push e.born) cl))∧w.heap.size≤(ChangeMaps.setBlock w1 r (.mapIter (some b) since (seen.push e.born) cl)).heap.size:=by
     have:=dk_put (ex:=N.ex) hP hw1 rfl
     rcases a2 with rfl | rfl
     ·exact this
     ·exact this
    obtain ⟨e1,e2⟩:=g4.2.2.2 ix p e b2 b3
    refine zAo (v:=.tuple #[.bool true,e.key,e.val]) (w':=ChangeMaps.setBlock w1 r (.mapIter (some b) since (seen.push e.born) cl)) rfl hN (fun ac ha=>?_) ?_ hdk
    ·simp only [execOp,ha.eval h1]
     rw [Sem.run_bind,a3]; rfl
    ·refine hK' _ _ _ _ _ _ ((hc.turn hρ hf (f':=[(r,.mapIter (some b) since (seen.push e.born) cl)]) (o:=.mit tk tv (left.eraseIdx q) (some p)) hs2 ?_).put ?_) (k1 q p b1)
     ·refine .inr ⟨b,es,cl,r,since,cl,seen.push e.born,xs,rfl,g3,rfl,g4,⟨b4.1,fun p' hp'=>?_⟩,g6,g8,g8⟩
      obtain ⟨i',e',c1,c2,c3,_⟩:=b4.2 p' hp'; exact ⟨i',e',c1,c2,c3,rfl⟩
     ·simp only [RepA]; exact ⟨[.bool true,e.key,e.val],rfl,by simp only [RepL]; exact ⟨zAx,zB2 e1,zB2 e2,trivial⟩⟩
theorem av_entry_dm {j:Nat}{tk tv:Ty}{left:List (tk.den×tv.den)}{p:tk.den×tv.den}{r:AV}(hx:aev st.l x=some (.map j)) (hH:st.H.get j=.mit tk tv left (some p)) (hr:.tup [zBx tk p.1,zBx tv p.2]=r) (hN:Nat.blt d N.n=true:=by rfl) : AOpV P N X ⟨some d,.entry x,U,pos,aft,g⟩ r st :=
 zA6 rfl fun Q fr w m ρ φ hc=>by
  subst hr
  obtain ⟨v,h1,h2⟩:=hc.ev hx
  simp only [RepA] at h2
  obtain ⟨f,hf,ho,hw⟩:=hc.obj h2.1
  rw [hH] at ho
  rcases ho with ⟨_,_,_,_,_,_,h,_⟩ | ⟨b,es,cl,rr,since,c0,seen,xs,rfl,g3,rfl,g4,g5,g6⟩
  ·cases h
  have hwr : w.heap[rr]?=some (.mapIter (some b) since seen c0):=hw (rr,_) (by simp)
  have hwb : w.heap[b]?=some (.map es cl):=hc.sh.fz _ _ g3
  obtain ⟨ix,e,c1,c2,c3,rfl⟩:=g5.2 p rfl
  obtain ⟨e1,e2⟩:=g4.2.2.2 ix p e c1 c2
  obtain ⟨seen',rfl⟩ : ∃ s' : Array Nat,seen=s'.push e.born:=by
   obtain ⟨s',hs'⟩:=Array.back?_eq_some_iff.1 c3
   exact ⟨s',hs'⟩
  refine ⟨.tuple #[e.key,e.val],?_,fun K hk=>zAo rfl hN (fun ac ha=>?_) hk⟩
  ·simp only [RepA]; exact ⟨[e.key,e.val],rfl,by simp only [RepL]; exact ⟨zB2 e1,zB2 e2,trivial⟩⟩
  ·simp only [execOp,ha.eval h1]
   rw [Sem.run_bind,run_entry_at w rr b since seen' es c0 e hwr hwb (List.mem_of_getElem? c2) g4.2.2.1.1]; rfl
end

end Go.Ab
namespace Go.Ab
open Go.RowKit Go.Shelf Go.Proofs Go.Eng

def lrunW {S R:Type}(b:S→(S ⊕ R→Prop)→Prop) : Nat→S→(R→Prop)→Prop
 | 0,_,_=>False
 | k+1,s,Q=>b s fun o=>match o with
  | .inl s'=>lrunW b k s' Q
  | .inr r=>Q r
def joinQW {S R:Type}(X:Cx) (M:S→AS) (Qx:R→zBa) (K:S ⊕ R→Prop) : zBa
 | .normal,st=>∃ s,K (.inl s)∧Wk X st (M s)
 | e,st=>∃ r,K (.inr r)∧Qx r e st
section
variable {P:Program} {N:Ev} {X:Cx} {Q:zBa} {st:AS}
theorem awc_loopW {S R:Type}{c:Code}(Inv:S→AS) (b:S→(S ⊕ R→Prop)→Prop) (Qx:R→zBa){k:Nat}{s:S}{K:R→Prop}(hr:lrunW b k s K) (hi:Wk X st (Inv s)) (hQ:∀ r,K r→∀ e st,Qx r e st→Q e st)
  (body:∀ s (K':S ⊕ R→Prop),b s K'→AWC P N X c (joinQW X Inv Qx K') (Inv s)) : AWC P N X (.loop c) Q st:=by
 intro fr w m ρ φ hc
 obtain ⟨m1,ρ1,φ1,h1⟩:=hi fr w m ρ φ hc
 intro a ha hg
 refine wpIn_loopG (fun (x:S×Nat) a w=>∃ fr,lrunW b x.2 x.1 K∧(∃ m ρ φ,Conc X (Inv x.1) fr w m ρ φ)∧Holds N fr a∧Eng.Good N a w) (fun x=>x.2) (s,k) ⟨fr,hr,⟨_,_,_,h1⟩,ha,hg⟩ ?_
 rintro ⟨s,k⟩ a w ⟨fr,hr,⟨m,ρ,φ,hc⟩,ha,hg⟩
 cases k with
 | zero=>exact hr.elim
 | succ k =>
  simp only [lrunW] at hr
  refine wpIn_mono (body s _ hr fr w m ρ φ hc a ha hg) ?_
  rintro e a' w' ⟨l',hl',g',st',m',ρ',φ',h2,h3⟩
  cases e with
  | normal =>
   obtain ⟨s',hs',hw⟩:=h3
   obtain ⟨m2,ρ2,φ2,h4⟩:=hw _ _ _ _ _ h2
   exact ⟨(s',k),⟨l',hs',⟨m2,ρ2,φ2,h4⟩,hl',g'⟩,Nat.lt_succ_self k⟩
  | ret=>obtain ⟨r,hr',hx⟩:=h3; exact ⟨l',hl',g',st',m',ρ',φ',h2,hQ r hr' _ _ hx⟩
  | exit i=>obtain ⟨r,hr',hx⟩:=h3; exact ⟨l',hl',g',st',m',ρ',φ',h2,hQ r hr' _ _ hx⟩
  | goto i=>obtain ⟨r,hr',hx⟩:=h3; exact ⟨l',hl',g',st',m',ρ',φ',h2,hQ r hr' _ _ hx⟩
  | panic i=>obtain ⟨r,hr',hx⟩:=h3; exact ⟨l',hl',g',st',m',ρ',φ',h2,hQ r hr' _ _ hx⟩
  | outgrown=>obtain ⟨r,hr',hx⟩:=h3; exact ⟨l',hl',g',st',m',ρ',φ',h2,hQ r hr' _ _ hx⟩
variable {d:Nat} {T U T':TypeId} {pos:String} {aft:Array Edge} {g:Option (Nat×Bool)} {x y z:Operand}
end
end Go.Ab
namespace Go.Ab
open Go.RowKit Go.Shelf Go.Proofs Go.Eng

abbrev Tabs:=List (Nat×Array Value)
def TabM (L:Tabs) (m:Mem) : Prop:=∀ p∈L,∃ T fr,m p.1=some (.cells p.2 T fr)
theorem TabM.mono {L:Tabs}{m m':Mem}(hm:m.le m') (h:TabM L m) : TabM L m':=fun p hp=>let ⟨T,fr,h1⟩:=h p hp; ⟨T,fr,hm _ _ h1⟩
theorem repL_flat {m:Mem}{ρ:List Value} : ∀ {rs:List AV},(rs.all flatB)=true→RepL m ρ rs (rs.map flatV):=by
 intro rs
 induction rs with
 | nil=>intro _; simp [RepL]
 | cons a rs ih =>
  intro h
  simp only [List.all_cons,Bool.and_eq_true] at h
  simp only [List.map_cons,RepL]
  refine ⟨?_,ih h.2⟩
  cases a <;> simp_all [flatB,flatV,RepA]
theorem runs_flat {P:Program}{f:FuncId}{as' rs:List AV}(ha:(as'.all flatB)=true) (hr:(rs.all flatB)=true)
  (h:∀ w,Calls P f (as'.map flatV).toArray w fun e w'=>e=.returned (zBg (rs.map flatV))∧Below w.heap.size w w') : zBb P f as' rs:=by
 intro e w m ρ φ F vs hv ho hs
 rw [flat_repL ha hv]
 refine Calls.mono (h w) ?_
 rintro ex w' ⟨rfl,hb⟩
 exact ⟨_,rfl,⟨DK.of_below hb,hb.size⟩,rs,[],m,ρ,φ,⟨rfl,rfl⟩,Mem.le_refl _,fun _ _ h=>h,Nat.le_refl _,ho,hs.ext hb,_,repL_flat hr,rfl⟩
end Go.Ab
namespace Go.Ab
open Go.RowKit Go.Shelf Go.Proofs Go.Eng

section
variable {P:Program}
variable {ρ:Ren}
abbrev zDU (b:Nat) : Value:=.pointer (some ⟨b,0,none⟩)
theorem setCell_put {w:World}{b j:Nat}{cs:Array Value}{T:TypeId}{v:Value}(h:w.heap[b]?=some (.cells cs T (0,0))) : Put w (w.setCell ⟨b,j,none⟩ v) b∧(w.setCell ⟨b,j,none⟩ v).heap[b]?=some (.cells (cs.setIfInBounds j v) T (0,0)):=by
 refine ⟨⟨rfl,rfl,rfl,by simp [World.setCell],fun k hk=>Below.heap_setCell _ _ _ _ hk⟩,?_⟩
 simp only [World.setCell,Array.getElem?_modify,if_true,h,Option.map_some]
 rfl
theorem bld_copy (L:Lays.n240 P ρ) (X:Builder.X72 P ρ){b:Nat}{w:World}{p buf:Value}(hp:p=.pointer none∨p=zDU b) (hbk:w.heap[b]?=some (.cells #[p,buf] (ρ.t 72) (0,0))) :
  Calls P (ρ.f 240) #[zDU b] w fun e w'=>e=.returned (.tuple #[])∧Put w w' b∧w'.heap[b]?=some (.cells #[zDU b,buf] (ρ.t 72) (0,0)):=by
 have c0 : w.cell? ⟨b,0,none⟩=some p:=by rw [Lib.cell_of_heap hbk]; rfl
 rcases hp with rfl | rfl
 ·refine (Any.Builder_copyCheck_fresh L X b w c0 (by simp [World.shape?,hbk]) (Lib.frozen_of_heap hbk 0)).mono ?_
  rintro e w' ⟨rfl,rfl⟩
  obtain ⟨h1,h2⟩:=setCell_put (j:=0) (v:=zDU b) hbk
  exact ⟨rfl,h1,h2⟩
 ·refine (Any.Builder_copyCheck_used L X b w c0).mono ?_
  rintro e w' ⟨rfl,rfl⟩
  exact ⟨rfl,⟨rfl,rfl,rfl,rfl,fun _ _=>rfl⟩,hbk⟩
theorem zDX (s:Str) : Lib.strCells (bstr s)=s.map fun x=>Value.int .u8 x.toNat:=by simp [Lib.strCells,bstr]
theorem bld_open {m:Mem}{ρ:List Value}{T E:TypeId}{s0:Str}{h:Value}{f:Frag}{w:World}(ho:ORep m ρ (.bld T E s0) h f) (hw:∀ p∈f,w.heap[p.1]?=some p.2) :
  s0.length≤zC8∧∃ b p buf fb,h=zDU b∧(p=.pointer none∨p=zDU b)∧f=(b,.cells #[p,buf] T (0,0))::fb∧w.ownsRow 0 E 1 buf s0.length (Lib.strCells (bstr s0))∧((buf.ownBlock=none∧fb=[])∨∃ b2 o,buf.ownBlock=some b2∧fb=[(b2,o)])∧(∀ q∈fb,ctl q.2=false):=by
 obtain ⟨h0,b,rfl,⟨rfl,p,hp,rfl⟩ | ⟨b2,c,cs,rfl,h1,h2,h3,h4⟩⟩:=ho
 ·exact ⟨h0,b,p,.slice none 0 0,[],rfl,hp,rfl,World.ownsRow_nil w 0 E 1,.inl ⟨rfl,rfl⟩,fun q hq=>by cases hq⟩
 ·refine ⟨h0,b,_,_,[(b2,.cells cs E (0,0))],rfl,.inr rfl,rfl,⟨by rw [zDX]; simp,.inr ⟨b2,c,cs,rfl,Nat.zero_le _,hw (b2,_) (by simp),h1,h2,by simpa using h3,by rw [zDX]; simpa using h4⟩⟩,.inr ⟨b2,_,rfl,rfl⟩,fun q hq=>by rw [List.mem_singleton.1 hq]; rfl⟩
theorem bld_close {m:Mem}{ρ:List Value}{T E:TypeId}{s0:Str}{b:Nat}{v':Value}{f':Frag}(h0:s0.length≤zC8)
  (h:(v'=.slice none 0 0∧s0.length=0∧f'=[])∨∃ g cap cur,v'=.slice (some ⟨g,0,none⟩) s0.length cap∧f'=[(g,.cells cur E (0,0))]∧s0.length≤cap∧cap≤maxLen∧cur.size=cap * 1∧cur.toList.take (s0.length * 1)=Lib.strCells (bstr s0)) :
  ORep m ρ (.bld T E s0) (zDU b) ((b,.cells #[zDU b,v'] T (0,0))::f'):=by
 refine ⟨h0,b,rfl,?_⟩
 rcases h with ⟨rfl,h1,rfl⟩ | ⟨g,cap,cur,rfl,rfl,h1,h2,h3,h4⟩
 ·exact .inl ⟨List.eq_nil_of_length_eq_zero h1,_,.inr rfl,rfl⟩
 ·exact .inr ⟨g,cap,cur,rfl,h1,h2,by simpa using h3,by rw [zDX] at h4; simpa using h4⟩
theorem rep2_ptr {m:Mem}{ρ:List Value}{as':List AV}{vs:List Value}(hv:RepL m ρ (.ptr 0 0::as') vs) : ∃ b us,ρ[0]?=some (zDU b)∧vs=zDU b::us∧RepL m ρ as' us:=by
 obtain ⟨u,us,rfl,h1,h2⟩:=RepL.one1 hv
 simp only [RepA] at h1
 obtain ⟨b,h3,rfl⟩:=h1
 exact ⟨b,us,h3,rfl,h2⟩
theorem os_one {m:Mem}{ρ:List Value}{o:AO}{φ:List Frag}{h:Value}(ho:zCl m ρ [o] φ) (hh:ρ[0]?=some h) : ∃ f,φ=[f]∧ρ=[h]∧ORep m ρ o h f:=by
 have h1 : ρ.length=1:=ho.nρ
 have h2 : φ.length=1:=ho.nφ
 obtain ⟨f,rfl⟩:=List.length_eq_one_iff.1 h2
 obtain ⟨h',rfl⟩:=List.length_eq_one_iff.1 h1
 simp at hh; subst hh
 exact ⟨f,rfl,rfl,ho.at_ 0 _ _ _ rfl rfl rfl⟩
theorem os_mk {m:Mem}{h:Value}{o:AO}{f:Frag}(ho:ORep m [h] o h f) : zCl m [h] [o] [f]:=⟨rfl,rfl,fun i o' h' f' a b c=>by
 cases i with
 | zero=>simp at a b c; subst a b c; exact ho
 | succ i=>simp at a⟩
structure ButB (g:Nat) (w w':World) : Prop where
 os : w'.os=w.os
 tape : w'.tape=w.tape
 output : w'.output=w.output
 size : w.heap.size≤w'.heap.size
 other : ∀ k,k < w.heap.size→k≠g→w'.heap[k]?=w.heap[k]?
theorem butB_freeze {w:World}{g n:Nat} : ButB g w (w.drew.freeze ⟨g,0,none⟩ n):=by
 unfold World.freeze
 split
 ·exact ⟨rfl,rfl,rfl,Nat.le_refl _,fun _ _ _=>rfl⟩
 ·exact ⟨rfl,rfl,rfl,by simp,fun k _ hk=>by simp only [Array.getElem?_modify]; rw [if_neg (fun e=>hk e.symm)]; rfl⟩
theorem ButB.sh {e w w':World}{m:Mem}{g:Nat}{o:Obj}{r:Frag}(h:ButB g w w') (hs:SH e w m ((g,o)::r)) : SH e w' m r:=by
 have hlt : ∀ x o',w.heap[x]?=some o'→x < w.heap.size:=fun x o' hx=>(Array.getElem?_eq_some_iff.1 hx).1
 have hnd:=hs.nd
 rw [List.map_cons,List.nodup_cons] at hnd
 refine ⟨h.os.trans hs.os,h.tape.trans hs.tape,h.output.trans hs.output,fun x o' hx=>?_,fun p hp=>?_,hnd.2,fun p hp=>hs.dis p (List.mem_cons_of_mem _ hp),fun p hp=>hs.noctl p (List.mem_cons_of_mem _ hp),hs.mctl,Nat.le_trans hs.esz h.size⟩
 ·have h1:=hs.fz x o' hx
  refine (h.other x (hlt _ _ h1) ?_).trans h1
  rintro rfl
  have:=hs.dis (x,o) (by simp)
  simp only at this
  rw [hx] at this; cases this
 ·have h1:=hs.own p (List.mem_cons_of_mem _ hp)
  refine (h.other p.1 (hlt _ _ h1) ?_).trans h1
  intro he
  exact hnd.1 (List.mem_map.2 ⟨p,hp,he⟩)
theorem ButB.dk {w w':World}{g:Nat}{o:Obj}(h:ButB g w w') (hg:w.heap[g]?=some o) (hc:ctl o=false) : DK nox w w'∧w.heap.size≤w'.heap.size:=by
 refine ⟨fun k o' hk hc' _=>?_,h.size⟩
 refine (h.other k (Array.getElem?_eq_some_iff.1 hk).1 ?_).trans hk
 rintro rfl
 rw [hg] at hk; cases hk; rw [hc] at hc'; cases hc'
set_option maxHeartbeats 1000000 in
set_option maxRecDepth 100000 in
theorem bld_str_raw (L:Lays.n169 P ρ) (X:Builder.Extra P ρ){b g cap:Nat}{w:World}{p:Value}{cur:Array Value}{l:List UInt8}(h0:l≠[]) (hbk:w.heap[b]?=some (.cells #[p,.slice (some ⟨g,0,none⟩) l.length cap] (ρ.t 72) (0,0))) (hg:w.heap[g]?=some (.cells cur (ρ.t 5) (0,0))) (hnc:l.length≤cap) (hcm:cap≤maxLen) (hcs:cur.size=cap) (htake:cur.toList.take l.length=l.map fun x=>Value.int .u8 x.toNat) :
  Calls P (ρ.f 169) #[zDU b] w fun e w'=>e=.returned (.string ⟨l.toArray⟩)∧ButB g w w':=by
 have hl0 : l.length≠0:=by simpa using h0
 have c1 : w.drew.cell? ⟨b,1,none⟩=some (.slice (some ⟨g,0,none⟩) l.length cap):=by
  have : w.drew.heap[b]?=some (.cells #[p,.slice (some ⟨g,0,none⟩) l.length cap] (ρ.t 72) (0,0)):=hbk
  rw [Lib.cell_of_heap this]; rfl
 have hSD : (Builtin.unsafeSliceData_ #[(ρ.t 37)] (ρ.t 127) #[.slice (some ⟨g,0,none⟩) l.length cap]).run P w.drew=.ok (.pointer (some ⟨g,0,none⟩)) w.drew :=
  Lib.run_unsafeSliceData_row _ _ _ _ _ _ (by omega)
 have hUS : (Builtin.unsafeString_ #[(ρ.t 127),(ρ.t 3)] (ρ.t 9) #[.pointer (some ⟨g,0,none⟩),.int .i64 l.length]).run P w.drew=.ok (.string ⟨l.toArray⟩) (w.drew.freeze ⟨g,0,none⟩ l.length):=by
  refine Lib.run_unsafeString_row w.drew (ρ.t 127) (ρ.t 3) (ρ.t 9) (ρ.t 5) L.t127 X.cellsByte g cur.size (by have hg':w.drew.heap[g]?=some (.cells cur (ρ.t 5) (0,0)):=hg; simp [World.shape?,hg']) l h0 (by omega) (by unfold maxLen at hcm; omega) ?_
  intro j x hx
  have h3 : (cur.toList.take l.length)[j]?=some (.int .u8 x.toNat):=by rw [htake,List.getElem?_map,hx]; rfl
  rw [List.getElem?_take] at h3
  split at h3
  ·rw [zCu,Nat.zero_add]
   exact zDR (w:=w.drew) hg (by simpa using h3)
  ·cases h3
 have mixed:=L.mixed
 have t72:=L.t72; have a72:=L.a72; have z72:=L.z72; have v72:=L.v72; have u72:=run_underlying L.t72
 have t70:=L.t70; have a70:=L.a70; have z70:=L.z70; have v70:=L.v70; have u70:=run_underlying L.t70
 have t37:=L.t37; have a37:=L.a37; have z37:=L.z37; have v37:=L.v37; have u37:=run_underlying L.t37
 have t127:=L.t127; have a127:=L.a127; have z127:=L.z127; have v127:=L.v127; have u127:=run_underlying L.t127
 have t3:=L.t3; have a3:=L.a3; have z3:=L.z3; have v3:=L.v3; have u3:=run_underlying L.t3
 have t9:=L.t9; have a9:=L.a9; have z9:=L.z9; have v9:=L.v9; have u9:=run_underlying L.t9
 have t5:=X.t5; have a5:=X.a5; have z5:=X.z5; have v5:=X.v5; have u5:=run_underlying X.t5
 go_enter L.f169,Body.n169_ntmps ρ
 go_wp2
 go_region_o
 all_goals (go_wp2; go_ret; exact ⟨rfl,butB_freeze⟩)
theorem bld_str (L:Lays.n169 P ρ) (X:Builder.Extra P ρ){s0:Str} : Runs P (ρ.f 169) [.ptr 0 0] [.bld (ρ.t 72) (ρ.t 5) s0] (fun q H'=>q=[.str s0]∧H'=[.dead]):=by
 intro e w m ρ' φ F vs hv ho hs
 obtain ⟨b,us,h1,rfl,h2⟩:=rep2_ptr hv
 cases us with
 | cons=>simp [RepL] at h2
 | nil =>
  obtain ⟨f,rfl,rfl,hf⟩:=os_one ho h1
  have hs' : SH e w m (f++F):=by simpa using hs
  have fin : ∀ w',SH e w' m F→(DK nox w w'∧w.heap.size≤w'.heap.size)→∃ v,(Ending.returned (.string (bstr s0)))=.returned v∧(DK nox w w'∧w.heap.size≤w'.heap.size)∧∃ rs H' m' ρ'' φ',(rs=[AV.str s0]∧H'=[AO.dead])∧m.le m'∧(∀ (i:Nat) (h:Value),[zDU b][i]?=some h→ρ''[i]?=some h)∧[AO.bld (ρ.t 72) (ρ.t 5) s0].length≤H'.length∧zCl m' ρ'' H' φ'∧SH e w' m' (φ'.flatten++F)∧∃ us,RepL m' ρ'' rs us∧v=zBg us:=by
   intro w' g1 g2
   refine ⟨_,rfl,g2,_,_,m,[zDU b],[[]],⟨rfl,rfl⟩,Mem.le_refl _,fun _ _ h=>h,Nat.le_refl _,os_mk rfl,by simpa using g1,[.string (bstr s0)],?_,rfl⟩
   simp only [RepL,RepA]; exact ⟨trivial,trivial⟩
  obtain ⟨h0,b',h5,⟨rfl,p,hp,rfl⟩ | ⟨b2,c,cs,rfl,a1,a2,a3,a4⟩⟩:=hf
  ·cases h5
   have hbk:=hs'.own (b,.cells #[p,.slice none 0 0] (ρ.t 72) (0,0)) (by simp)
   refine Calls.mono (Any.Builder_String_nil L X w.heap.size b p w hbk) ?_
   rintro ex w' ⟨rfl,hB⟩
   exact fin w' ((hs'.ext hB).tail (f:=[_])) ⟨DK.of_below hB,hB.size⟩
  ·cases h5
   have hbk:=hs'.own (b,.cells #[zDU b,.slice (some ⟨b2,0,none⟩) s0.length c] (ρ.t 72) (0,0)) (by simp)
   have hg:=hs'.own (b2,.cells cs (ρ.t 5) (0,0)) (by simp)
   simp only at hbk hg
   by_cases hnil : s0=[]
   ·subst hnil
    by_cases hc0 : c=0
    ·subst hc0
     refine Calls.mono (Any.Builder_String_noroom L X w.heap.size b b2 (zDU b) cs w (Nat.le_refl _) hbk hg) ?_
     rintro ex w' ⟨rfl,hB⟩
     exact fin w' ((hs'.ext hB).tail (f:=[_,_])) ⟨DK.of_below hB,hB.size⟩
    ·refine Calls.mono (Any.Builder_String_room L X w.heap.size b b2 c (zDU b) w hc0 hbk) ?_
     rintro ex w' ⟨rfl,hB⟩
     exact fin w' ((hs'.ext hB).tail (f:=[_,_])) ⟨DK.of_below hB,hB.size⟩
   ·refine Calls.mono (bld_str_raw L X hnil hbk hg a1 a2 a3 a4) ?_
    rintro ex w' ⟨rfl,hB⟩
    have hs2 : SH e w m ((b2,.cells cs (ρ.t 5) (0,0))::((b,.cells #[zDU b,.slice (some ⟨b2,0,none⟩) s0.length c] (ρ.t 72) (0,0))::F)):=hs'.perm (List.Perm.swap _ _ _)
    exact fin w' ((hB.sh hs2).tail (f:=[_])) (hB.dk hg rfl)
theorem wk_bld {X:Cx}{st:AS}{i:Nat}{T:TypeId}(E:TypeId) (hH:st.H.get i=.var T [.nilp,.nils]) (hi:Nat.blt i st.n=true) : Wk X st (st.upd i (.bld T E [])):=by
 intro fr w m ρ φ hc
 have hil : i < ρ.length:=by rw [hc.nρ]; simpa using hi
 have hρ : ρ[i]?=some (ρ[i]'hil):=List.getElem?_eq_getElem hil
 obtain ⟨f,hf,ho,hw⟩:=hc.obj hρ
 rw [hH] at ho
 obtain ⟨b,us,h1,rfl,h3,h4⟩:=ho
 have hu : us=[.pointer none,.slice none 0 0]:=by
  obtain ⟨u,us',rfl,g1,g2⟩:=RepL.one1 h3
  obtain ⟨u2,us2,rfl,g3,g4⟩:=RepL.one1 g2
  simp only [RepA] at g1 g3
  subst g1 g3
  cases us2 with
  | nil=>rfl
  | cons=>simp [RepL] at g4
 subst hu
 exact ⟨m,ρ,_,hc.turn hρ hf (hc.front hf) ⟨Nat.zero_le _,b,h1,.inl ⟨rfl,_,.inl rfl,rfl⟩⟩⟩
end
end Go.Ab
namespace Go.Ab
open Go.RowKit Go.Shelf Go.Proofs Go.Eng
section
variable {P:Program} {N:Ev} {X:Cx} {Q:zBa} {st:AS}
variable {d:Nat} {T U T':TypeId} {pos:String} {aft:Array Edge} {g:Option (Nat×Bool)} {x y z:Operand} {k ky:IntKind} {a b:Int}

end
end Go.Ab
namespace Go.Ab
open Go.RowKit Go.Shelf Go.Proofs Go.Eng

section
variable {P:Program} {N:Ev} {X:Cx} {Q:zBa} {st:AS}
variable {d:Nat} {T U T':TypeId} {pos:String} {aft:Array Edge} {g:Option (Nat×Bool)} {x y:Operand} {k ky:IntKind} {a b:Int}
end
end Go.Ab
namespace Go.Ab
open Go.RowKit Go.Shelf Go.Proofs Go.Eng

section
variable {P:Program} {N:Ev} {X:Cx} {Q:zBa} {st:AS}
variable {d:Nat} {T U T':TypeId} {pos:String} {aft:Array Edge} {g:Option (Nat×Bool)} {x y z:Operand} {k ky:IntKind} {a b:Int}
end
end Go.Ab
namespace Go.Ab
open Go.RowKit Go.Shelf Go.Proofs Go.Eng

section
variable {P:Program} {N:Ev} {X:Cx} {Q:zBa} {st:AS}
variable {d:Nat} {T U T':TypeId} {pos:String} {aft:Array Edge} {g:Option (Nat×Bool)} {x y z:Operand} {k ky:IntKind} {a b:Int}
end
end Go.Ab
namespace Go.Ab
open Go.RowKit Go.Shelf Go.Proofs Go.Eng

section
variable {P:Program} {N:Ev} {Q:Post} {l:Fr} {w:World}
end

section
variable {P:Program} {N:Ev} {X:Cx} {Q:zBa} {st:AS}
variable {d:Nat} {T U:TypeId} {pos:String} {aft:Array Edge}
end
end Go.Ab
namespace Go.Ab
open Go.RowKit Go.Shelf Go.Proofs Go.Eng

theorem zipH_below : ∀ {os:List AO}{n q:Nat}{H:AH},q < n→AH.get (zipH n os++H) q=H.get q:=by
 intro os
 induction os with
 | nil=>intro n q H _; rfl
 | cons o os ih =>
  intro n q H hn
  rw [zipH,List.cons_append,AH.get_cons,if_neg (by omega)]
  exact ih (by omega)
theorem zipH_at : ∀ {os:List AO}{n q:Nat}{o:AO}{H:AH},os[q]?=some o→AH.get (zipH n os++H) (n+q)=o:=by
 intro os
 induction os with
 | nil=>intro n q o H h; simp at h
 | cons a os ih =>
  intro n q o H h
  rw [zipH,List.cons_append,AH.get_cons]
  cases q with
  | zero=>simp at h; subst h; simp
  | succ q =>
   rw [if_neg (by omega),show n+(q+1)=n+1+q by omega]
   exact ih (by simpa using h)

section
variable {P:Program} {N:Ev} {X:Cx} {Q:zBa} {st:AS}
theorem zAd {i:Nat}{T:TypeId}{e:OT}{x:e.den}(cs:List AV) (os:List AO) (hi:Nat.blt i st.n=true) (hH:st.H.get i=.tr (.pt T e) (some x)) (h1:(opn e x st.n).1=cs) (h2:(opn e x st.n).2=os) :
  Wk X st ⟨st.l,(i,.var T cs)::(zipH st.n os++st.H),st.n+os.length⟩:=by
 intro fr w m ρ φ hc
 have hil : i < st.n:=by simpa using hi
 obtain ⟨u,hu⟩ : ∃ u,ρ[i]?=some u:=⟨_,List.getElem?_eq_getElem (by rw [hc.nρ]; exact hil)⟩
 obtain ⟨f,hf,hor,hw⟩:=hc.obj hu
 rw [hH] at hor
 obtain ⟨_,⟨h0,_⟩ | ⟨y,hy,b,us,g,h4,rfl,h5,h6⟩⟩:=hor
 ·cases h0
 cases hy
 simp only [List.cons.injEq,and_true] at h4
 subst h4
 obtain ⟨hds,gs,g0,p1,r1,o1⟩:=opn_rep (ρ:=ρ) h6
 rw [hc.nρ] at r1 o1
 rw [h1] at r1
 rw [h2] at o1
 obtain ⟨l1,l2,l3⟩:=o1.get
 obtain ⟨q1,q2⟩:=zBl hf [(b,.cells us.toArray T (0,0))]
 have hsh : SH X.e w m ((φ.set i [(b,.cells us.toArray T (0,0))]).flatten++gs.flatten++X.F):=by
  refine SH.tail (f:=g0) (hc.sh.perm ?_)
  rw [← List.append_assoc]
  refine List.Perm.append_right _ ?_
  refine q1.trans ?_
  have a2 : (g0++((φ.set i [(b,.cells us.toArray T (0,0))]).flatten++gs.flatten)).Perm (g0++(([(b,.cells us.toArray T (0,0))]++(φ.eraseIdx i).flatten)++gs.flatten)):=List.Perm.append_left _ (q2.append_right _)
  refine List.Perm.trans ?_ a2.symm
  have a1 : ((b,Obj.cells us.toArray T (0,0))::g).Perm ((b,.cells us.toArray T (0,0))::(g0++gs.flatten)):=List.Perm.cons _ p1
  refine (a1.append_right _).trans ?_
  simp only [List.cons_append,List.append_assoc,List.nil_append]
  refine List.Perm.trans ?_ List.perm_middle.symm
  refine List.Perm.cons _ (List.Perm.append_left _ ?_)
  exact List.perm_append_comm
 have hre:=Conc.re hc (Mem.le_refl m) (H':=(i,.var T cs)::(zipH st.n os++st.H)) (ρ2:=hds) (φ1:=φ.set i [(b,.cells us.toArray T (0,0))]) (φ2:=gs) (w':=w) (by simp) l2 ?_ ?_ hsh
 ·rw [show st.n+os.length=st.n+hds.length by rw [l1]]
  exact ⟨m,_,_,hre⟩
 ·intro q h f hq hfq
  rw [AH.get_cons]
  by_cases e : i=q
  ·subst e
   rw [if_pos rfl]
   rw [hu] at hq; cases hq
   rw [List.getElem?_set_self (by rw [hc.nφ]; exact hil)] at hfq
   cases hfq
   exact ⟨b,us,rfl,rfl,r1,h5⟩
  ·rw [if_neg e]
   rw [List.getElem?_set_ne e] at hfq
   have hqn : q < st.n:=by rw [← hc.nρ]; exact (List.getElem?_eq_some_iff.1 hq).1
   rw [zipH_below hqn]
   exact (hc.objs q h f hq hfq).mono (Mem.le_refl _) pre_apps
 ·intro q h f hq hfq
  obtain ⟨o,ho1,ho2⟩:=l3 q h f hq hfq
  rw [AH.get_cons,if_neg (by omega),zipH_at ho1]; exact ho2
theorem zAT {i:Nat}{T:TypeId}{e:OT}{cs:List AV}{js:List Nat}(x:e.den) (hH:st.H.get i=.var T cs) (hP:Pk st.H e x cs js) (hj:(zCn (i::js)&&(i::js).all fun j=>Nat.blt j st.n)=true) :
  Wk X st ⟨st.l,(i,.tr (.pt T e) (some x))::killH js st.H,st.n⟩:=by
 intro fr w m ρ φ hc
 simp only [Bool.and_eq_true,List.all_eq_true] at hj
 obtain ⟨hj1,hj2⟩:=hj
 have hnd:=zCS hj1
 have hl : ∀ j∈i::js,j < st.n:=fun j hm=>by simpa using hj2 j hm
 have hil:=hl i (by simp)
 obtain ⟨u,hu⟩ : ∃ u,ρ[i]?=some u:=⟨_,List.getElem?_eq_getElem (by rw [hc.nρ]; exact hil)⟩
 obtain ⟨f,hf,hor,hw⟩:=hc.obj hu
 rw [hH] at hor
 obtain ⟨b,us,rfl,rfl,h3,h4⟩:=hor
 have hO:=pk_or (φ:=φ) hc.objD hP h3
 refine ⟨m,ρ,_,hc.fall hnd (fun j hm=>hl j (List.mem_cons_of_mem _ hm)) hu (f':=(b,.cells us.toArray T (0,0))::(js.flatMap fun j=>φ.getD j [])) ⟨rfl,.inr ⟨x,rfl,b,us,_,rfl,rfl,h4,hO⟩⟩ ?_⟩
 have hb:=hc.before hnd hl
 rw [List.flatMap_cons] at hb
 rw [show φ.getD i []=[(b,.cells us.toArray T (0,0))] by rw [List.getD_eq_getElem?_getD,hf]; rfl] at hb
 exact hb
theorem wk_perm {i:Nat}{tk tv:Ty}{xs ys:List (tk.den×tv.den)}(hi:Nat.blt i st.n=true) (hH:st.H.get i=.map tk tv xs) (hp:xs.Perm ys) : Wk X st (st.upd i (.map tk tv ys)):=by
 intro fr w m ρ φ hc
 have hil : i < ρ.length:=by rw [hc.nρ]; simpa using hi
 have hρ : ρ[i]?=some (ρ[i]'hil):=List.getElem?_eq_getElem hil
 obtain ⟨f,hf,ho,hw⟩:=hc.obj hρ
 rw [hH] at ho
 obtain ⟨x',hp',ho⟩:=ho
 have h:=hc.turn hρ hf (f':=f) (hc.front hf) (o:=.map tk tv ys) ⟨x',hp'.trans hp,ho⟩
 exact ⟨m,ρ,_,h⟩

variable {d:Nat} {T U T':TypeId} {pos:String} {aft:Array Edge} {g:Option (Nat×Bool)} {x y z:Operand}
theorem av_pnil {op:BinOp}{a:AV}{b:Bool}(ho:op=.eql∨op=.neq){E:TypeId}(hU:Und P T (.pointer E)) (hx:aev st.l x=some a) (hy:aev st.l y=some .nilp)
  (h:∀ fr w m ρ φ v,Conc X st fr w m ρ φ→RepA m ρ a v→∃ p : Option Addr,v=.pointer p∧p.isNone=b) (hN:Nat.blt d N.n=true:=by rfl) :
  AOpV P N X ⟨some d,.binOp op T x y T',U,pos,aft,g⟩ (.bool (match op with | .eql=>b | _=>!b)) st :=
 zA6 rfl fun Q fr w m ρ φ hc=>by
  obtain ⟨vx,h1,h2⟩:=hc.ev hx
  obtain ⟨vy,h3,h4⟩:=hc.ev hy
  obtain ⟨p,rfl,h5⟩:=h _ _ _ _ _ _ hc h2
  simp only [RepA] at h4
  subst h4
  have hU : P.underlying T=some (.pointer (P.pointee T)):=by
   have h9 : P.underlying T=some (.pointer E):=hU
   rw [show P.pointee T=E by simp only [Program.pointee,h9]]; exact h9
  refine ⟨_,zAx,fun K hk=>op_bin h1 h3 (fun w=>?_) (fun w=>?_) hN hk⟩
  ·rcases ho with rfl | rfl <;> simp [eqGuard]
  ·rcases ho with rfl | rfl
   ·rw [run_eql_pointer_nil w T p hU,h5]
   ·rw [run_neq_pointer_nil w T p hU,h5]
theorem rep_rp_ptr {m:Mem}{ρ:List Value}{cs:List AV}{v:Value}(h:RepA m ρ (.rp cs) v) : ∃ p : Option Addr,v=.pointer p∧p.isNone=false:=by
 simp only [RepA] at h; obtain ⟨b,o,us,rfl,_⟩:=h; exact ⟨_,rfl,rfl⟩
theorem zCj {cs:List AV}{E:TypeId}(hU:Und P T (.pointer E)) (hx:aev st.l x=some (.rp cs)) (hy:aev st.l y=some .nilp) (hN:Nat.blt d N.n=true:=by rfl) : AOpV P N X ⟨some d,.binOp .eql T x y T',U,pos,aft,g⟩ (.bool false) st :=
 av_pnil (.inl rfl) hU hx hy (fun fr w m ρ φ v _ h=>rep_rp_ptr h) hN
theorem rep_pd_ptr {m:Mem}{ρ:List Value}{t:Ty}{q:Option t.den}{v:Value}(h:RepA m ρ (.pd t q) v) : ∃ p : Option Addr,v=.pointer p∧p.isNone=q.isNone:=by
 simp only [RepA] at h
 rcases h with ⟨rfl,h⟩ | ⟨y,b,o,us,rfl,h,_⟩ <;> simp only [List.cons.injEq,and_true] at h <;> subst h <;> exact ⟨_,rfl,rfl⟩
theorem zDW {t:Ty}{q:Option t.den}{E:TypeId}(hU:Und P T (.pointer E)) (hx:aev st.l x=some (.pd t q)) (hy:aev st.l y=some .nilp) (hN:Nat.blt d N.n=true:=by rfl) : AOpV P N X ⟨some d,.binOp .eql T x y T',U,pos,aft,g⟩ (.bool q.isNone) st :=
 av_pnil (.inl rfl) hU hx hy (fun fr w m ρ φ v _ h=>rep_pd_ptr h) hN
theorem av_neqnil_pd {t:Ty}{q:Option t.den}{E:TypeId}(hU:Und P T (.pointer E)) (hx:aev st.l x=some (.pd t q)) (hy:aev st.l y=some .nilp) (hN:Nat.blt d N.n=true:=by rfl) : AOpV P N X ⟨some d,.binOp .neq T x y T',U,pos,aft,g⟩ (.bool (!q.isNone)) st :=
 av_pnil (.inr rfl) hU hx hy (fun fr w m ρ φ v _ h=>rep_pd_ptr h) hN
end
end Go.Ab
namespace Go.Ab
open Go.RowKit Go.Shelf Go.Proofs Go.Eng

theorem mdel_erase {α β:Type} [DecidableEq α] : ∀ {x:List (α×β)}{i:Nat}{k:α},(x[i]?).map (·.1)=some k→(∀ j,j < i→(x[j]?).map (·.1)≠some k)→mdel x k=x.eraseIdx i:=by
 intro x
 induction x with
 | nil=>intro i k h; simp at h
 | cons p x ih =>
  intro i k h hj
  cases i with
  | zero=>simp at h; subst h; simp [mdel]
  | succ i =>
   have h0:=hj 0 (by omega)
   simp at h0
   simp only [mdel,if_neg (fun e:k=p.1=>h0 e.symm),List.eraseIdx_cons_succ]
   rw [ih (by simpa using h) fun j hjj=>by simpa using hj (j+1) (by omega)]
theorem mdel_none {α β:Type} [DecidableEq α] : ∀ {x:List (α×β)}{k:α},mget x k=none→mdel x k=x:=by
 intro x
 induction x with
 | nil=>intro k _; rfl
 | cons p x ih =>
  intro k h
  simp only [mget] at h
  split at h
  ·cases h
  ·rename_i hn; simp only [mdel,if_neg hn,ih h]
theorem mdel_perm {α β:Type} [DecidableEq α] {x y:List (α×β)}(h:x.Perm y) (hn:(x.map (·.1)).Nodup) (k:α) : (mdel x k).Perm (mdel y k):=by
 induction h with
 | nil=>exact List.Perm.refl _
 | cons p h ih =>
  simp only [List.map_cons,List.nodup_cons] at hn
  simp only [mdel]
  split
  ·exact h
  ·exact List.Perm.cons _ (ih hn.2)
 | swap p q l =>
  simp only [List.map_cons,List.nodup_cons,List.mem_cons,not_or] at hn
  simp only [mdel]
  by_cases h1 : k=p.1
  ·by_cases h2 : k=q.1
   ·exact absurd (h2.symm.trans h1) hn.1.1
   ·rw [if_neg h2,if_pos h1,if_pos h1]
  ·by_cases h2 : k=q.1
   ·rw [if_pos h2,if_neg h1,if_pos h2]
   ·rw [if_neg h2,if_neg h1,if_neg h1,if_neg h2]; exact List.Perm.swap _ _ _
 | trans h1 h2 ih1 ih2=>exact (ih1 hn).trans (ih2 ((h1.map _).nodup_iff.1 hn))
theorem zCC {α β:Type} [DecidableEq α] {x:List (α×β)}(k:α) (h:(x.map (·.1)).Nodup) : ((mdel x k).map (·.1)).Nodup:=((mdel_sub x k).map _).nodup h
theorem ent_erase {m:Mem}{tk tv:Ty} : ∀ {x:List (tk.den×tv.den)}{es:List MapEntry}(i:Nat),EntL m tk tv x es→EntL m tk tv (x.eraseIdx i) (es.eraseIdx i):=by
 intro x
 induction x with
 | nil=>intro es i h; cases es with
  | nil=>simpa using h
  | cons=>exact h.elim
 | cons p x ih=>intro es i h; cases es with
  | nil=>exact h.elim
  | cons e es =>
   cases i with
   | zero=>exact h.2
   | succ i=>exact ⟨h.1,ih i h.2⟩
theorem zCK (es:Array MapEntry) (i:Nat) : (es.eraseIdxIfInBounds i).toList=es.toList.eraseIdx i:=by
 unfold Array.eraseIdxIfInBounds
 split
 ·simp
 ·rename_i h; rw [List.eraseIdx_of_length_le (by simpa using h)]
theorem births_erase {es:Array MapEntry}{cl:Nat}(h:zCP es cl) (i:Nat) : zCP (es.eraseIdxIfInBounds i) cl:=by
 unfold zCP
 rw [zCK]
 exact ⟨((List.eraseIdx_sublist _ _).map _).nodup h.1,fun e he=>h.2 e ((List.eraseIdx_sublist _ _).mem he)⟩

section
variable {P:Program} {N:Ev} {X:Cx} {Q:zBa} {st:AS}
variable {d:Nat} {T U T':TypeId} {pos:String} {aft:Array Edge} {g:Option (Nat×Bool)} {x y z:Operand}

theorem run_delete {w:World}{m:Mem}{tk tv:Ty} [DecidableEq tk.den] {xs:List (tk.den×tv.den)}{kx:tk.den}{kT eT b cl ty T2:Nat}{es:Array MapEntry}{kv:Value}(hU:Und P T (.map kT eT)) (hK:KeyT P kT tk) (hw:w.heap[b]?=some (.map es cl)) (he:EntL m tk tv xs es.toList) (hk:RV m tk kx kv) :
  ∃ es',(Builtin.delete_ #[T,T2] ty #[.map (some b),kv]).run P w=.ok (.tuple #[]) { w with heap:=w.heap.setIfInBounds b (.map es' cl) }∧((es'=es∧mget xs kx=none)∨∃ i : Nat,es'=es.eraseIdxIfInBounds i∧(xs[i]?).map (·.1)=some kx∧∀ j,j < i→(xs[j]?).map (·.1)≠some kx):=by
 obtain ⟨r,h1,h2⟩:=hK.find m kx kv tv xs es.toList w hk he
 have h3:=hK.chk m kx kv es.isEmpty w hk
 have hset : ∀ o,(setObj b o).run P w=.ok () { w with heap:=w.heap.setIfInBounds b o }:=fun o=>by simp [setObj,Sem.run,hw]
 cases r with
 | none =>
  refine ⟨es,?_,.inl ⟨rfl,h2⟩⟩
  simp [Builtin.delete_,run_underlying hU,Result.andThen_ok,zCA hw,h3,h1,hset]
 | some q =>
  obtain ⟨i,u⟩:=q
  obtain ⟨y,g1,g2,g3,g4,g5⟩:=h2
  refine ⟨es.eraseIdxIfInBounds i,?_,.inr ⟨i,rfl,g3,g5⟩⟩
  simp [Builtin.delete_,run_underlying hU,Result.andThen_ok,zCA hw,h3,h1,hset]

theorem aop_mapDel {i kT eT T2:Nat}{tk tv:Ty} [DecidableEq tk.den] {xs:List (tk.den×tv.den)}{kx:tk.den}{cl:Array Operand}{ts:Array TypeId}{dst:Option Nat}{K:AS→Prop}(hcl:cl=#[x,y]) (hts:ts=#[T,T2]) (hd:dst=none) (hU:Und P T (.map kT eT)) (hK:KeyT P kT tk) (hx:aev st.l x=some (.map i)) (hy:aev st.l y=some (zBx tk kx)) (hH:st.H.get i=.map tk tv xs) (hno:tk.fit kx=true)
  (k:K (st.upd i (.map tk tv (mdel xs kx)))) : AOp P N X ⟨dst,.call ⟨.builtin .delete,cl,ts⟩,U,pos,aft,g⟩ K st :=
 zBH fun Q fr w m ρ φ hc K' hK'=>by
  subst hcl hts hd
  obtain ⟨v,h1,h2⟩:=hc.ev hx
  obtain ⟨kv,h3,h4⟩:=hc.ev hy
  obtain ⟨xs',hp,b,es,cl,rfl,hρ,hf,hw,he,hnd,hBi⟩:=own_map hc h2 hH
  obtain ⟨es',hr,hes⟩:=run_delete (ty:=U) (T2:=T2) hU hK hw he (zCm hno h4)
  obtain ⟨hP,hb'⟩:=zDm (o':=.map es' cl) hw
  have hfr:=hc.front hf
  have key : EntL m tk tv (mdel xs' kx) es'.toList∧zCP es' cl:=by
   rcases hes with ⟨rfl,h⟩ | ⟨i,rfl,h,h'⟩
   ·rw [mdel_none h]; exact ⟨he,hBi⟩
   ·rw [mdel_erase h h',zCK]; exact ⟨ent_erase i he,births_erase hBi i⟩
  obtain ⟨g1,g2⟩:=ent_get key.1
  refine op_valN (v:=.tuple #[]) (w':={ w with heap:=w.heap.setIfInBounds b (.map es' cl) }) rfl (fun ac ha=>?_) ?_ (dk_put hP hw rfl)
  ·simp [execOp,resolve,invoke,builtin,ha.eval h1,ha.eval h3,hr]
  ·exact hK' _ _ (st.upd i (.map tk tv (mdel xs kx))) _ _ _ (hc.turn hρ hf (f':=[(b,.map es' cl)]) (hfr.put hP hb' rfl) ⟨_,mdel_perm hp hnd kx,b,es',cl,rfl,rfl,g1,zCC _ hnd,key.2,g2⟩) k

def zBu {S α R:Type}(g:S→α→Option (S ⊕ R)) : S→List α→Option (S ⊕ R)
 | s,[]=>some (.inl s)
 | s,p::l=>(g s p).bind fun o=>match o with
  | .inl s'=>zBu g s' l
  | .inr r=>some (.inr r)
def rbM {S α R:Type}(g:S→α→Option (S ⊕ R)) (q:List α×Option α×S) (K:(List α×Option α×S) ⊕ (S ⊕ R)→Prop) : Prop :=
 (q.1=[]→K (.inr (.inl q.2.2)))∧∀ (i:Nat) (p:α),q.1[i]?=some p→∃ o,g q.2.2 p=some o∧match o with
  | .inl s'=>∀ c,K (.inl (q.1.eraseIdx i,c,s'))
  | .inr r=>K (.inr (.inr r))
theorem perm_erase {α:Type} : ∀ {l:List α}{i:Nat}{p:α},l[i]?=some p→(p::l.eraseIdx i).Perm l:=by
 intro l
 induction l with
 | nil=>intro i p h; simp at h
 | cons a l ih =>
  intro i p h
  cases i with
  | zero=>simp at h; subst h; exact List.Perm.refl _
  | succ i=>exact (List.Perm.swap _ _ _).trans (List.Perm.cons _ (ih (by simpa using h)))
theorem lrun_M {S α R:Type}{g:S→α→Option (S ⊕ R)}{K:S ⊕ R→Prop} : ∀ (n:Nat){left:List α}{c:Option α}{s:S},left.length=n→(∀ l,l.Perm left→∃ o,zBu g s l=some o∧K o)→lrunW (rbM g) (n+1) (left,c,s) K:=by
 intro n
 induction n with
 | zero =>
  intro left c s hl h
  obtain rfl:=List.eq_nil_of_length_eq_zero hl
  refine ⟨fun _=>?_,fun i p hp=>by simp at hp⟩
  obtain ⟨o,ho,hk⟩:=h [] (List.Perm.refl _)
  simp only [zBu,Option.some.injEq] at ho
  subst ho; exact hk
 | succ n ih =>
  intro left c s hl h
  refine ⟨fun h0=>by rw [show left=[] from h0] at hl; simp at hl,fun i p hp=>?_⟩
  have hpe:=perm_erase hp
  have hlen : (left.eraseIdx i).length=n:=by have:=hpe.length_eq; simp at this; omega
  obtain ⟨o,ho,hk⟩:=h _ hpe
  simp only [zBu] at ho
  obtain ⟨q,hq,ho⟩:=Option.bind_eq_some_iff.1 ho
  refine ⟨q,hq,?_⟩
  cases q with
  | inl s' =>
   intro c'
   refine ih hlen fun l hlp=>?_
   obtain ⟨o2,ho2,hk2⟩:=h (p::l) ((List.Perm.cons p hlp).trans hpe)
   simp only [zBu] at ho2
   obtain ⟨q2,hq2,ho2⟩:=Option.bind_eq_some_iff.1 ho2
   rw [show g s p=_ from hq] at hq2
   cases hq2
   exact ⟨o2,ho2,hk2⟩
  | inr r =>
   simp only [Option.some.injEq] at ho
   subst ho; exact hk
theorem zCi {S α R:Type}{c:Code}(g:S→α→Option (S ⊕ R)) (Inv:List α×Option α×S→AS) (Qx:S ⊕ R→zBa){xs xs':List α}{s:S}{K:S ⊕ R→Prop}(hr:∀ l,l.Perm xs→∃ o,zBu g s l=some o∧K o) (hp:xs'.Perm xs) (hi:Wk X st (Inv (xs',none,s))) (hQ:∀ r,K r→∀ e st,Qx r e st→Q e st)
  (body:∀ left cur s (K':(List α×Option α×S) ⊕ (S ⊕ R)→Prop),rbM g (left,cur,s) K'→AWC P N X c (joinQW X Inv Qx K') (Inv (left,cur,s))) : AWC P N X (.loop c) Q st :=
 awc_loopW Inv (rbM g) Qx (lrun_M xs'.length rfl fun l hl=>hr l (hl.trans hp)) hi hQ fun p K' h=>body p.1 p.2.1 p.2.2 K' h

theorem zCJ {t:Ty}{q:Option t.den}{y:t.den}(hx:aev st.l x=some (.pd t q)) (hq:q=some y) (hN:Nat.blt d N.n=true:=by rfl) : AOpV P N X ⟨some d,.nilCheck x,U,pos,aft,g⟩ (.rp (expl t y)) st :=
 zA6 rfl fun Q fr w m ρ φ hc=>by
  subst hq
  obtain ⟨v,h1,h2⟩:=hc.ev hx
  simp only [RepA] at h2
  rcases h2 with ⟨h,_⟩ | ⟨z,b,o,us,h1',h2,h3,h4⟩
  ·cases h
  cases h1'
  simp only [List.cons.injEq,and_true] at h2
  subst h2
  refine ⟨.pointer (some ⟨b,o,none⟩),?_,fun K hk=>zDc h1 hN hk⟩
  simp only [RepA]; exact ⟨b,o,us,rfl,rc_expl h3,h4,h3.one⟩
end
end Go.Ab
