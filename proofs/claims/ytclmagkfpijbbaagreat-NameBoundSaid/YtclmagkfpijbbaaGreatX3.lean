/- The layings of library functions at the dump of the naming statements, seat Z. -/
import Derived.Test.YtclmagkfpijbbaaGreatX2
import Derived.Test.YtclmagkfpijbbaaGreatChecked
import Derived.Shelf.SlGeneric
import Derived.Ground.NamesProg
import Derived.Ground.GgwProg
import Derived.Ground.GgzProg
import Derived.Ground.SlsfProg
import Derived.Shelf.Strings.OnBuilder
import Derived.Shelf.Strings.FuncGrows
import Derived.Shelf.Small.Strs
import Derived.Shelf.Sort.Plain
import Derived.Shelf.Slices.In.SortNone
import Derived.Shelf.SlIterI.Nil
import Derived.Shelf.SlSortCmp.WholeK
import Derived.Test.YtclmagkfpijbbaaGreatProg
import Derived.Lib.Join
import Derived.Lib.Bytealg
import Derived.Shelf.GgClosure.StringsIndexFunc
import Derived.Shelf.Slices.In.SortNone2
import Derived.Shelf.GgClosure.StringsIndexFuncTop
import Derived.Lib.QuietBelow
import Derived.Shelf.SlSortCmp.NoneTotal
set_option linter.unusedVariables false
set_option linter.unusedSimpArgs false
namespace Go.Ab
open Go.RowKit Go.Shelf Go.Proofs Go.Eng

def Ty.flat : Ty→Bool
 | .int _=>true
 | .bool=>true
 | .str=>true
 | .unit=>true
 | .pair a b=>a.flat&&b.flat
 | .st a=>a.flat
 | .arr _ e=>e.flat
 | _=>false
theorem RC.flat {m m':Mem} : ∀ {t:Ty}{x:t.den}{cs:List Value},t.flat=true→RC m t x cs→RC m' t x cs:=by
 intro t
 induction t with
 | int k=>intro x cs _ h; exact h
 | bool=>intro x cs _ h; exact h
 | str=>intro x cs _ h; exact h
 | unit=>intro x cs _ h; exact h
 | pair a b iha ihb=>intro x cs hf h; simp only [Ty.flat,Bool.and_eq_true] at hf; obtain ⟨c,d,h1,h2,h3⟩:=h; exact ⟨c,d,h1,iha hf.1 h2,ihb hf.2 h3⟩
 | st a ih=>intro x cs hf h; exact ih (x:=x) hf h
 | arr n e ih=>intro x cs hf h; obtain ⟨h1,us,h2,h3,h4⟩:=h; exact ⟨h1,us,h2,h3,fun i y u hy hu=>ih hf (h4 i y u hy hu)⟩
 | slice e=>intro x cs hf; simp [Ty.flat] at hf
 | raw z=>intro x cs hf; simp [Ty.flat] at hf
 | map k v=>intro x cs hf; simp [Ty.flat] at hf
 | ptr t=>intro x cs hf; simp [Ty.flat] at hf
theorem RV.flat {m m':Mem}{t:Ty}{x:t.den}{v:Value}(hf:t.flat=true) (h:RV m t x v) : RV m' t x v:=by
 unfold RV at h ⊢
 split
 ·rename_i ha; rw [if_pos ha] at h; obtain ⟨cs,h1,h2⟩:=h; exact ⟨cs,h1,h2.flat hf⟩
 ·rename_i ha; rw [if_neg ha] at h; exact h.flat hf
def memF1 : AV→Bool
 | .int ..=>true
 | .bool ..=>true
 | .str ..=>true
 | .nils=>true
 | .nilp=>true
 | .nilf=>true
 | .nili=>true
 | .nilm=>true
 | .osl _=>true
 | .map _=>true
 | .ptr _ _=>true
 | _=>false
def memF : AV→Bool
 | .agg cs=>cs.all memF1
 | a=>memF1 a
theorem memF1_rep {m m':Mem}{ρ:List Value}{a:AV}{v:Value}(hf:memF1 a=true) (h:RepA m ρ a v) : RepA m' ρ a v:=by
 cases a <;> simp [memF1] at hf <;> simpa only [RepA] using h
theorem memF1_repL {m m':Mem}{ρ:List Value} : ∀ {as':List AV}{vs:List Value},(as'.all memF1)=true→RepL m ρ as' vs→RepL m' ρ as' vs:=by
 intro as'
 induction as' with
 | nil=>intro vs _ h; cases vs with
  | nil=>simp [RepL]
  | cons=>simp [RepL] at h
 | cons a as' ih=>intro vs hf h; cases vs with
  | nil=>simp [RepL] at h
  | cons v vs=>simp only [List.all_cons,Bool.and_eq_true] at hf; simp only [RepL] at h ⊢; exact ⟨memF1_rep hf.1 h.1,ih hf.2 h.2⟩
theorem memF_rep {m m':Mem}{ρ:List Value}{a:AV}{v:Value}(hf:memF a=true) (h:RepA m ρ a v) : RepA m' ρ a v:=by
 cases a with
 | agg cs=>simp only [memF] at hf; simp only [RepA] at h ⊢; obtain ⟨us,h1,h2,h3⟩:=h; exact ⟨us,h1,memF1_repL hf h2,h3⟩
 | _=>exact memF1_rep hf h
theorem memF_repL {m m':Mem}{ρ:List Value} : ∀ {as':List AV}{vs:List Value},(as'.all memF)=true→RepL m ρ as' vs→RepL m' ρ as' vs:=by
 intro as'
 induction as' with
 | nil=>intro vs _ h; cases vs with
  | nil=>simp [RepL]
  | cons=>simp [RepL] at h
 | cons a as' ih=>intro vs hf h; cases vs with
  | nil=>simp [RepL] at h
  | cons v vs=>simp only [List.all_cons,Bool.and_eq_true] at hf; simp only [RepL] at h ⊢; exact ⟨memF_rep hf.1 h.1,ih hf.2 h.2⟩
def flatO : AO→Bool
 | .dead=>true
 | .var _ cs=>cs.all memF1
 | .sl _ t _=>t.flat
 | .map tk tv _=>tk.flat&&tv.flat
 | _=>false
theorem flatO_plain {o:AO}(h:flatO o=true) : o.plain=true:=by cases o <;> first | rfl | simp [flatO] at h
theorem ORep.flat {m m':Mem}{ρ:List Value}{o:AO}{h:Value}{f:Frag}(hf:flatO o=true) (H:ORep m ρ o h f) : ORep m' ρ o h f:=by
 cases o with
 | dead=>exact H
 | var T cs=>obtain ⟨b,us,h1,h2,h3,h4⟩:=H; exact ⟨b,us,h1,h2,memF1_repL hf h3,h4⟩
 | sl T t x =>
  obtain ⟨h0,H | ⟨b,c,cs,vs,h1,h2,h3,h4,h5,⟨us,h6,h7,h8⟩,h9⟩⟩:=H
  ·exact ⟨h0,.inl H⟩
  ·exact ⟨h0,.inr ⟨b,c,cs,vs,h1,h2,h3,h4,h5,⟨us,h6,h7,fun i y u hy hu=>(h8 i y u hy hu).flat hf⟩,h9⟩⟩
 | map tk tv x =>
  simp only [flatO,Bool.and_eq_true] at hf
  obtain ⟨x',hp,b,es,cl,h1,h2,h3,h4,h5,h6⟩:=H
  exact ⟨x',hp,b,es,cl,h1,h2,h3,h4,h5,fun i p e a b=>⟨(h6 i p e a b).1.flat hf.1,(h6 i p e a b).2.flat hf.2⟩⟩
 | _=>simp [flatO] at hf
theorem zCl.flat {m m':Mem}{ρ:List Value}{H:List AO}{φ:List Frag}(hf:(H.all flatO)=true) (h:zCl m ρ H φ) : zCl m' ρ H φ:=by
 refine ⟨h.nρ,h.nφ,fun i o u f ho hu hff=>?_⟩
 rw [List.all_eq_true] at hf
 exact (h.at_ i o u f ho hu hff).flat (hf o (List.mem_of_getElem? ho))

theorem SH.join {e w w':World}{m m':Mem}{f g:Frag}(h:SH e w m f) (hb:Below w.heap.size w w') (h':SH e w' m' g) (hm:(allM w []).le m') (hg:∀ p∈g,ctl p.2=false) : SH e w' m (g++f):=by
 have h2:=h.ext hb
 have hle:=(le_allM h).trans hm
 refine ⟨h2.os,h2.tape,h2.output,h2.fz,fun p hp=>?_,?_,fun p hp=>?_,fun p hp=>?_,h2.mctl,h2.esz⟩
 ·rcases List.mem_append.1 hp with hp | hp
  ·exact h'.own p hp
  ·exact h2.own p hp
 ·rw [List.map_append,List.nodup_append]
  refine ⟨h'.nd,h2.nd,fun a ha b hbm e=>?_⟩
  subst e
  obtain ⟨p,hp,rfl⟩:=List.mem_map.1 ha
  obtain ⟨q,hq,hqe⟩:=List.mem_map.1 hbm
  have h3:=h'.own p hp
  have h4:=h2.own q hq
  rw [hqe,h3] at h4
  have h5 : p.2=q.2:=Option.some.inj h4
  have h6:=h.own q hq
  have h7:=hm _ _ (allM_nil h6 (by rw [← h5]; exact hg p hp))
  rw [hqe,h'.dis p hp] at h7
  cases h7
 ·rcases List.mem_append.1 hp with hp | hp
  ·cases hmm : m p.1 with
   | none=>rfl
   | some o=>have:=hle _ _ hmm; rw [h'.dis p hp] at this; cases this
  ·exact h2.dis p hp
 ·rcases List.mem_append.1 hp with hp | hp
  ·intro hc; rw [hg p hp] at hc; cases hc
  ·exact h2.noctl p hp

section
variable {P:Program} {N:Ev} {X:Cx} {Q:zBa} {st:AS}
variable {d:Nat} {T U T':TypeId} {pos:String} {aft:Array Edge} {g:Option (Nat×Bool)} {x y z:Operand}
theorem all_plain {H:List AO}(h:(H.all flatO)=true) : (H.all AO.plain)=true:=by
 rw [List.all_eq_true] at h ⊢; exact fun o ho=>flatO_plain (h o ho)
theorem ret_lent {f:FuncId}{bs rs:List AV}{Hs:List AO}{fr:Fr}{w:World}{m:Mem}{ρ:List Value}{φ:List Frag}{vs:List Value}(hr:RunsM X.m P f bs [] fun q H'=>q=rs∧H'=Hs) (hc:Conc X st fr w m ρ φ) (hv:RepL (allM w []) [] bs vs) (h1:(rs.all memF)=true) (h2:(Hs.all flatO)=true) :
  Ret P f vs.toArray w fun v w'=>Below w.heap.size w w'∧∃ ρ' φ',zCl m ρ' Hs φ'∧SH X.e w' m (φ'.flatten++(φ.flatten++X.F))∧∃ us,RepL m ρ' rs us∧v=zBg us:=by
 have hsh : SH X.e w (allM w []) []:=⟨hc.sh.os,hc.sh.tape,hc.sh.output,fun b o hb=>(of_allM hb).1,fun p hp=>by simp at hp,by simp,fun p hp=>by simp at hp,fun p hp=>by simp at hp,fun b o hb=>(of_allM hb).2,hc.sh.esz⟩
 refine Calls.mono (hr X.e w _ [] [] [] vs (hc.mle.trans (le_allM hc.sh)) hv ⟨rfl,rfl,fun i o h f hi=>by simp at hi⟩ (by simpa using hsh)) ?_
 rintro e w' ⟨v,he,hd,rs',H',m',ρ',φ',⟨rfl,rfl⟩,hm,_,_,ho,hs,us,hu,rfl⟩
 have hb : Below w.heap.size w w':=zDq hsh (SH.tail hs) hm hd.2 hd.1
 have hs' : SH X.e w' m' φ'.flatten:=by simpa using hs
 exact ⟨_,he,hd,hb,ρ',φ',ho.flat h2,hc.sh.join hb hs' hm (ho.noctl (all_plain h2)),us,memF_repL h1 hu,rfl⟩
theorem lent_conc {Hs:List AO}{rs:List AV}{fr:Fr}{w w':World}{m:Mem}{ρ ρ':List Value}{φ φ':List Frag}{us:List Value}(hc:Conc X st fr w m ρ φ) (ho:zCl m ρ' Hs φ') (hs:SH X.e w' m (φ'.flatten++(φ.flatten++X.F))) (hu:RepL m ρ' rs us) :
  ∃ ρ2 φ2,Conc X ⟨(d,tupA (renL (zCD st.n Hs.length) rs))::st.l,updH 0 (zCD st.n Hs.length) (Hs.map (AO.ren (zCD st.n Hs.length))) st.H,st.n+Hs.length⟩ ((d,zBg us)::fr) w' m ρ2 φ2:=by
 refine conc_call (d:=d) (σ:=[]) (av:=tupA (renL (zCD st.n Hs.length) rs)) (v:=zBg us) hc (by simp) (fun i hi=>by simp at hi) (Mem.le_refl m) (by simp) (fun i j h hi=>by simp at hi) ho ?_ (fun ρ' hb=>zBM (zCH hb _ hu))
 have hfil : ((List.range st.n).filter fun i=>!([] : List Nat).contains i)=List.range st.n:=by
  rw [List.filter_eq_self]; intro a _; simp
 rw [hfil,← hc.nφ,← zCT]
 exact hs
theorem zAp {f:FuncId}{xs:List Operand}{as' bs rs:List AV}{Hs:List AO}{ts:Array TypeId}{K:AS→Prop}{r:AV}(hr:RunsM X.m P f bs [] fun q H'=>q=rs∧H'=Hs) (hf:Enters P f) (hx:xs.map (aev st.l)=as'.map some) (hbs:cvL bs (as'.map (zBI st.H [] 4))) (h1:(rs.all memF)=true) (h2:(Hs.all flatO)=true)
  (hrs:tupA (renL (zCD st.n Hs.length) rs)=r) (k:K ⟨(d,r)::st.l,updH 0 (zCD st.n Hs.length) (Hs.map (AO.ren (zCD st.n Hs.length))) st.H,st.n+Hs.length⟩) (hN:Nat.blt d N.n=true:=by rfl) :
  AOp P N X ⟨some d,.call ⟨.value (.func f),xs.toArray,ts⟩,U,pos,aft,g⟩ K st :=
 zBH fun Q fr w m ρ φ hc K' hK=>by
  obtain ⟨vs,g1,g2⟩:=hc.evl hx
  refine zDf hf g1 (ret_lent hr hc (cvL_rep hbs (bor_repL hc g2)) h1 h2) hN ?_
  rintro v w' ⟨hb,ρ',φ',ho,hs,us,hu,rfl⟩
  subst hrs
  obtain ⟨ρ2,φ2,hcc⟩:=lent_conc (d:=d) hc ho hs hu
  exact hK _ _ _ _ _ _ hcc k
theorem zBD {f:FuncId}{xs:List Operand}{as' bs rs:List AV}{Hs:List AO}{ts:Array TypeId}{r:AV}(hr:RunsM X.m P f bs [] fun q H'=>q=rs∧H'=Hs) (hf:Enters P f) (hx:xs.map (aev st.l)=as'.map some) (hbs:cvL bs (as'.map (zBI st.H [] 4))) (h1:(rs.all memF)=true) (h2:(Hs.all flatO)=true)
  (hrs:tupA (rs.map (zBI (zipH 0 Hs) [] 4))=r) (hN:Nat.blt d N.n=true:=by rfl) :
  AOpV P N X ⟨some d,.call ⟨.value (.func f),xs.toArray,ts⟩,U,pos,aft,g⟩ r st:=by
 intro Q fr w m ρ φ hc
 obtain ⟨vs,g1,g2⟩:=hc.evl hx
 subst hrs
 have hret:=ret_lent hr hc (cvL_rep hbs (bor_repL hc g2)) h1 h2
 refine zDf hf g1 hret hN ?_
 rintro v w' ⟨hb,ρ',φ',ho,hs,us,hu,rfl⟩
 have hfz:=hs.frz
 refine ⟨d,zBg us,rfl,rfl,hb,m.add φ'.flatten,Mem.le_add _ _,hfz,zBM ?_⟩
 have hnd:=hs.nd
 rw [List.map_append,List.nodup_append] at hnd
 have hctl:=ho.noctl (all_plain h2)
 have hcoe : ∀ {a:AV} {v:Value},RepA m ρ' a v→RepA (m.add φ'.flatten) ρ (zBI (zipH 0 Hs) [] 4 a) v:=fun h=>by
  refine coe_rep (φ:=φ) (Mem.le_add _ _) (fun i j h hp=>by simp [posN] at hp) (fun i u _ hi=>?_) 4 h
  have hil:=(List.getElem?_eq_some_iff.1 hi).1
  have hl1 : i < Hs.length:=by rw [← ho.nρ]; exact hil
  have hl2 : i < φ'.length:=by rw [ho.nφ]; exact hl1
  have hH : (zipH 0 Hs++[]).get (0+i)=Hs[i]:=zipH_at (List.getElem?_eq_getElem hl1)
  rw [List.append_nil,Nat.zero_add] at hH
  refine ⟨φ'[i],by rw [hH]; exact ho.at_ i _ _ _ (List.getElem?_eq_getElem hl1) hi (List.getElem?_eq_getElem hl2),fun p hp hpc=>?_⟩
  have hpm : p∈φ'.flatten:=List.mem_flatten.2 ⟨_,List.getElem_mem hl2,hp⟩
  exact add_get hnd.1 hpm (hs.dis p (List.mem_append.2 (.inl hpm))) hpc
 have hL : ∀ {as':List AV} {vs:List Value},RepL m ρ' as' vs→RepL (m.add φ'.flatten) ρ (as'.map (zBI (zipH 0 Hs) [] 4)) vs:=by
  intro as'
  induction as' with
  | nil=>intro vs h; cases vs with
   | nil=>simp [RepL]
   | cons=>simp [RepL] at h
  | cons a as' ih=>intro vs h; cases vs with
   | nil=>simp [RepL] at h
   | cons v vs=>simp only [List.map_cons,RepL] at h ⊢; exact ⟨hcoe h.1,ih h.2⟩
 exact hL hu
end
end Go.Ab
namespace Go.Ab
open Go.RowKit Go.Shelf Go.Proofs Go.Eng

abbrev DrawT:=List (List Bool×AS×List Nat)
def boolsB : List Bool→List Bool→Bool
 | [],[]=>true
 | true::r,true::s=>boolsB r s
 | false::r,false::s=>boolsB r s
 | _,_=>false
theorem boolsB_eq : ∀ {l r:List Bool},boolsB l r=true→l=r:=by
 intro l
 induction l with
 | nil=>intro r h; cases r with
  | nil=>rfl
  | cons=>simp [boolsB] at h
 | cons a l ih=>intro r h; cases r with
  | nil=>cases a <;> simp [boolsB] at h
  | cons b r=>cases a <;> cases b <;> simp only [boolsB] at h <;> first | (rw [ih h]) | cases h
def lookD : DrawT→List Bool→Option AS
 | [],_=>none
 | q::t,L=>bif boolsB q.1 L then some q.2.1 else lookD t L
def readyB (ops:List Oper) (L:List Bool) (i:Nat) : Bool:=(match L[i]? with
 | some false=>true
 | _=>false)&&match ops[i]? with
 | some o=>o.after.toList.all fun e=>!Region.binds .any e||(match L[e.on]? with
  | some true=>true
  | _=>false)
 | none=>false
def natsB : List Nat→List Nat→Bool
 | [],[]=>true
 | a::r,b::s=>Nat.beq a b&&natsB r s
 | _,_=>false
theorem natsB_eq : ∀ {l r:List Nat},natsB l r=true→l=r:=by
 intro l
 induction l with
 | nil=>intro r h; cases r with
  | nil=>rfl
  | cons=>simp [natsB] at h
 | cons a l ih=>intro r h; cases r with
  | nil=>simp [natsB] at h
  | cons b r=>simp only [natsB,Bool.and_eq_true] at h; rw [Nat.eq_of_beq_eq_true h.1,ih h.2]
def drawTOk (ops:List Oper) (tbl:DrawT) : Bool:=tbl.all fun q=>Nat.beq q.1.length ops.length&&natsB ((List.range ops.length).filter (readyB ops q.1)) q.2.2
def ObD1 (P:Program) (N:Ev) (X:Cx) (ops:List Oper) (tbl:DrawT) (L:List Bool) (s:AS) : List Nat→Prop
 | []=>True
 | i::r=>(∃ o s',ops[i]?=some o∧lookD tbl (L.set i true)=some s'∧AOp P N X o (fun s1=>Wk X s1 s') s)∧ObD1 P N X ops tbl L s r
def ObD (P:Program) (N:Ev) (X:Cx) (ops:List Oper) (tbl:DrawT) : DrawT→Prop
 | []=>True
 | q::t=>ObD1 P N X ops tbl q.1 q.2.1 q.2.2∧ObD P N X ops tbl t
section
variable {P:Program} {N:Ev} {X:Cx} {Q:zBa} {st:AS}
theorem ObD1.at {ops:List Oper}{tbl:DrawT}{L:List Bool}{s:AS} : ∀ {r:List Nat},ObD1 P N X ops tbl L s r→∀ i∈r,∃ o s',ops[i]?=some o∧lookD tbl (L.set i true)=some s'∧AOp P N X o (fun s1=>Wk X s1 s') s:=by
 intro r
 induction r with
 | nil=>intro _ i hi; cases hi
 | cons j r ih =>
  intro h i hi; rcases List.mem_cons.1 hi with rfl | hi
  ·exact h.1
  ·exact ih h.2 i hi
theorem ObD.at {ops:List Oper}{tbl:DrawT} : ∀ {t:DrawT},ObD P N X ops tbl t→∀ {L:List Bool}{s:AS},lookD t L=some s→∃ r,(L,s,r)∈t∧ObD1 P N X ops tbl L s r:=by
 intro t
 induction t with
 | nil=>intro _ L s h; cases h
 | cons q t ih =>
  intro h L s hl
  simp only [lookD] at hl
  cases hb : boolsB q.1 L with
  | true=>rw [hb,cond_true] at hl; cases hl; have e:=boolsB_eq hb; subst e; exact ⟨q.2.2,List.mem_cons.2 (.inl rfl),h.1⟩
  | false=>rw [hb,cond_false] at hl; obtain ⟨r,h1,h2⟩:=ih h.2 hl; exact ⟨r,List.mem_cons_of_mem _ h1,h2⟩
theorem SH.drawn {e w:World}{m:Mem}{f:Frag}(h:SH e w m f) (k:Nat) : SH e { w with drawn:=k } m f:=⟨h.os,h.tape,h.output,h.fz,h.own,h.nd,h.dis,h.noctl,h.mctl,h.esz⟩
theorem Conc.drawn {fr:Fr}{w:World}{m:Mem}{ρ:List Value}{φ:List Frag}(h:Conc X st fr w m ρ φ) (k:Nat) : Conc X st fr { w with drawn:=k } m ρ φ:=⟨h.mle,h.pre,h.nρ,h.nφ,h.slots,h.objs,h.sh.drawn k⟩
theorem awc_drawS {id:Nat}{ops:List Oper}(hm:P.follows .mixedOrders=true) (tbl:DrawT) (st0 stE:AS) (hw:Wk X st st0) (hok:drawTOk ops tbl=true) (hback:backOk ops=true) (hgu:(ops.all fun o=>o.guard.isNone)=true) (h0:lookD tbl (List.replicate ops.length false)=some st0) (hE:lookD tbl (List.replicate ops.length true)=some stE) (hob:ObD P N X ops tbl tbl) (k:Q .normal stE) : AWC P N X (.region id ops.toArray true) Q st:=by
 intro fr w m ρ φ hc a ha hg
 obtain ⟨m,ρ,φ,hc⟩:=hw fr w m ρ φ hc
 refine wpIn_region_any hm ?_
 have hall : ∀ listed : Array Bool,listed.size=ops.length→Region.ready .any ops.toArray listed=[]→listed.toList=List.replicate ops.length true:=by
  intro listed hs hr
  have key : ∀ i,i < ops.length→listed[i]?=some true:=by
   intro i
   induction i using Nat.strongRecOn with
   | _ i ih =>
    intro hi
    rcases hl : listed[i]? with _ | b
    ·simp at hl; omega
    ·cases b with
     | true=>rfl
     | false =>
      exfalso
      have : i∈Region.ready .any ops.toArray listed:=by
       simp only [Region.ready,List.mem_filter,List.mem_range,List.size_toArray]
       refine ⟨hi,?_⟩
       simp only [Array.getD_eq_getD_getElem?,hl,Option.getD_some,Bool.not_false,Bool.true_and]
       have ho0 : ops[i]?=some (ops[i]'hi):=List.getElem?_eq_getElem hi
       have ho : ops.toArray[i]?=some (ops[i]'hi):=by simp
       simp only [ho,Option.map_some,Option.getD_some,Array.all_eq_true']
       intro e he
       by_cases hb : Region.binds .any e=true
       ·have hlt:=back_of hback i _ ho0 e he hb
        simp only [hb,Bool.not_true,Bool.false_or]
        rw [ih e.on hlt (by omega)]; rfl
       ·simp [hb]
      rw [hr] at this
      cases this
  refine List.ext_getElem? fun i=>?_
  rw [Array.getElem?_toList]
  by_cases hi : i < ops.length
  ·rw [key i hi,List.getElem?_replicate,if_pos hi]
  ·rw [List.getElem?_replicate,if_neg hi]; simp; omega
 have hrow:=List.all_eq_true.1 hok
 have main : ∀ (fuel:Nat) (listed:Array Bool) (a:Act) (W:World) (s:AS) (fr:Fr) (m:Mem) (ρ:List Value) (φ:List Frag),lookD tbl listed.toList=some s→Conc X s fr W m ρ φ→Holds N fr a→Eng.Good N a W→listed.size=ops.length→(listed.toList.filter (! ·)).length≤fuel →
   wpAnyIn (FW N.ro) 0 P .any ops.toArray (up N (upQ X Q)) fuel listed a W:=by
  intro fuel
  have fin : ∀ (listed:Array Bool) (a:Act) (W:World) (s:AS) (fr:Fr) (m:Mem) (ρ:List Value) (φ:List Frag),lookD tbl listed.toList=some s→Conc X s fr W m ρ φ→Holds N fr a→Eng.Good N a W→listed.toList=List.replicate ops.length true→up N (upQ X Q) .normal a W:=by
   intro listed a W s fr m ρ φ h1 h2 h3 h4 h5
   rw [h5,hE] at h1
   cases h1
   exact ⟨fr,h3,h4,stE,m,ρ,φ,h2,k⟩
  induction fuel with
  | zero =>
   intro listed a W s fr m ρ φ h1 h2 h3 h4 hs hf
   have hr : Region.ready .any ops.toArray listed=[]:=by
    simp only [Region.ready,List.filter_eq_nil_iff,List.mem_range,List.size_toArray]
    intro i hi
    have hfl : listed.toList.filter (! ·)=[]:=List.eq_nil_of_length_eq_zero (by omega)
    rw [List.filter_eq_nil_iff] at hfl
    have hlt : i < listed.size:=by omega
    have hm:=hfl listed[i] (by simp)
    have : listed[i]=true:=by simpa using hm
    simp [Array.getD_eq_getD_getElem?,Array.getElem?_eq_getElem hlt,this]
   exact ⟨hr,fin listed a W s fr m ρ φ h1 h2 h3 h4 (hall listed hs hr)⟩
  | succ fuel ih =>
   intro listed a W s fr m ρ φ h1 h2 h3 h4 hs hf
   refine ⟨fun hr=>fin listed a W s fr m ρ φ h1 h2 h3 h4 (hall listed hs hr),fun i hi=>?_⟩
   obtain ⟨r,hr1,hr2⟩:=hob.at h1
   have hq:=hrow _ hr1
   rw [Bool.and_eq_true] at hq
   have hrl : (List.range ops.length).filter (readyB ops listed.toList)=r:=natsB_eq hq.2
   simp only [Region.ready,List.mem_filter,List.mem_range,List.size_toArray] at hi
   obtain ⟨hlt,hi⟩:=hi
   rw [Bool.and_eq_true] at hi
   obtain ⟨hun,hrd⟩:=hi
   have ho : ops[i]?=some (ops[i]'hlt):=List.getElem?_eq_getElem hlt
   have ho' : ops.toArray[i]?=some (ops[i]'hlt):=by simp
   have hun' : listed[i]?=some false:=by
    have hlt' : i < listed.size:=by omega
    rw [Array.getElem?_eq_getElem hlt']
    simp only [Array.getD_eq_getD_getElem?,Array.getElem?_eq_getElem hlt',Option.getD_some] at hun
    simpa using hun
   have him : i∈r:=by
    rw [← hrl,List.mem_filter]
    refine ⟨List.mem_range.2 hlt,?_⟩
    unfold readyB
    rw [Array.getElem?_toList,hun',ho]
    simp only [Bool.true_and,List.all_eq_true]
    intro e he
    rw [ho'] at hrd
    simp only [Option.map_some,Option.getD_some,Array.all_eq_true'] at hrd
    have h6:=hrd e (Array.mem_toList_iff.1 he)
    rw [Bool.or_eq_true] at h6 ⊢
    rcases h6 with h6 | h6
    ·exact .inl h6
    ·refine .inr ?_
     rw [Array.getElem?_toList]
     rw [Array.getD_eq_getD_getElem?] at h6
     rcases h8 : listed[e.on]? with _ | b
     ·rw [h8] at h6; simp at h6
     ·rw [h8] at h6; simp at h6; rw [h6]
   obtain ⟨o,s',g1,g2,g3⟩:=hr2.at i him
   rw [ho] at g1
   cases g1
   have hcount:=count_set hun' hf
   have hgd : (ops[i]'hlt).guard=none:=by
    have:=List.all_eq_true.1 hgu _ (List.getElem_mem hlt)
    simpa using this
   unfold wpOpIn
   rw [ho']
   simp only []
   rw [if_pos (by simp [Region.wanted,hgd])]
   refine Oper.wpIn_mono ?_ (g3 (upQ X Q) fr W m ρ φ h2 a h3 h4)
   rintro a' W' ⟨l',hl',hg',s1,m1,ρ1,φ1,hc1,hw1⟩
   obtain ⟨m2,ρ2,φ2,hc2⟩:=hw1 _ _ _ _ _ hc1
   exact ih _ a' W' s' l' m2 ρ2 φ2 (by rw [Array.toList_setIfInBounds]; exact g2) hc2 hl' hg' (by simp [hs]) hcount
 refine main _ _ _ _ st0 fr m ρ φ (by simpa using h0) (hc.drawn _) ha (hg.step rfl (fun _ _ h _ _=>h) (Nat.le_refl _)) (by simp) (by simp)
end
abbrev dF : Bool:=false
abbrev dT : Bool:=true
theorem obd_n {P:Program}{N:Ev}{X:Cx}{ops:List Oper}{tbl:DrawT} : ObD P N X ops tbl []:=trivial
theorem zDs {P:Program}{N:Ev}{X:Cx}{ops:List Oper}{tbl:DrawT}{L:List Bool}{s:AS}{r:List Nat}{t:DrawT}(h:ObD1 P N X ops tbl L s r) (k:ObD P N X ops tbl t) : ObD P N X ops tbl ((L,s,r)::t):=⟨h,k⟩
theorem zDt {P:Program}{N:Ev}{X:Cx}{ops:List Oper}{tbl:DrawT}{L:List Bool}{s:AS} : ObD1 P N X ops tbl L s []:=trivial
theorem zDr {P:Program}{N:Ev}{X:Cx}{ops:List Oper}{tbl:DrawT}{L:List Bool}{s s':AS}{i:Nat}{o:Oper}{r:List Nat}(h1:ops[i]?=some o) (h2:lookD tbl (L.set i true)=some s') (h:AOp P N X o (fun s1=>Wk X s1 s') s) (k:ObD1 P N X ops tbl L s r) : ObD1 P N X ops tbl L s (i::r):=⟨⟨o,s',h1,h2,h⟩,k⟩
def wsD (l:AFr) (H:AH) (σ:List Nat) (d:Nat) : AFr→List (Option AV)
 | []=>[]
 | p::r=>(match l.look p.1 with | some a=>some (zBI H σ d a) | none=>none)::wsD l H σ d r
def wsE : AFr→List (Option AV)
 | []=>[]
 | p::r=>some p.2::wsE r
theorem wsD_k {l:AFr}{H:AH}{σ:List Nat}{d:Nat} : ∀ {l':AFr},wsD l H σ d l'=wsE l'→wkS l H σ d l':=by
 intro l'
 induction l' with
 | nil=>intro _; trivial
 | cons p r ih =>
  intro h
  simp only [wsD,wsE,List.cons.injEq] at h
  refine ⟨⟨p.2,?_,cv0⟩,ih h.2⟩
  have h1:=h.1
  cases hl : l.look p.1 with
  | none=>rw [hl] at h1; cases h1
  | some a=>rw [hl] at h1; exact h1
def woD (H:AH) (σ:List Nat) (d:Nat) : List Nat→List AO
 | []=>[]
 | i::r=>coeO H σ d (H.get i)::woD H σ d r
def woE (H':AH) : Nat→List Nat→List AO
 | _,[]=>[]
 | j,_::r=>H'.get j::woE H' (j+1) r
theorem woD_k {H:AH}{σ0:List Nat}{d:Nat}{H':AH} : ∀ {σ:List Nat}{j:Nat},woE H' j σ=woD H σ0 d σ→wkO H σ0 d H' j σ:=by
 intro σ
 induction σ with
 | nil=>intro j _; trivial
 | cons a r ih =>
  intro j h
  simp only [woD,woE,List.cons.injEq] at h
  exact ⟨.inl h.1,ih h.2⟩
theorem wkA {X:Cx}{k:Nat}(hX:X.ρ.length=k) (σ:List Nat){st st':AS}(hn:Nat.beq st'.n σ.length=true:=by exact rfl) (hB:wkB k st.n σ=true:=by exact rfl) (hs:wsD st.l st.H σ 4 st'.l=wsE st'.l:=by exact rfl) (ho:woE st'.H 0 σ=woD st.H σ 4 σ:=by exact rfl) : Wk X st st':=zAA hX σ 4 hn hB (wsD_k hs) (woD_k ho)
theorem aV {P:Program}{N:Ev}{X:Cx}{k:Nat}{o:Oper}{a:AV}{d:Nat}{st st':AS}(h:AOpV P N X o a st) (hX:X.ρ.length=k) (σ:List Nat) (hd:o.dst=some d:=by exact rfl) (hn:Nat.beq st'.n σ.length=true:=by exact rfl) (hB:wkB k st.n σ=true:=by exact rfl) (hs:wsD (st.put d a).l st.H σ 4 st'.l=wsE st'.l:=by exact rfl) (ho:woE st'.H 0 σ=woD st.H σ 4 σ:=by exact rfl) : AOp P N X o (fun s1=>Wk X s1 st') st:=zAX h (wkA hX σ hn hB hs ho) hd
end Go.Ab
namespace Go.Ab
open Go.RowKit Go.Shelf Go.Proofs Go.Eng

section
variable {P:Program} {N:Ev} {X:Cx} {Q:zBa} {st:AS}
variable {d:Nat} {T U T':TypeId} {pos:String} {aft:Array Edge} {g:Option (Nat×Bool)} {x y z:Operand} {k:IntKind} {a:Int}

theorem av_index_agg1 {cs:List AV}{u:AV}{n E:Nat}(hU:Und P T (.array n E)) (hT:TyS P E false 1) (hn:Nat.beq cs.length n=true) (hx:aev st.l x=some (.agg cs)) (hy:aev st.l y=some (.int k a)) (h:ix cs a=some u) (hN:Nat.blt d N.n=true:=by rfl) : AOpV P N X ⟨some d,.index T x y,U,pos,aft,g⟩ u st :=
 zA6 rfl fun Q fr w m ρ φ hc=>by
  obtain ⟨h1,h2,h3⟩:=ix_some h
  obtain ⟨p,g1,g2⟩:=hc.ev hx
  simp only [RepA] at g2
  obtain ⟨us,rfl,g3,g4⟩:=g2
  obtain ⟨v,g5,g6⟩:=g3.get h3
  have hn:=Nat.eq_of_beq_eq_true hn
  have hlt : a.toNat < us.length:=(List.getElem?_eq_some_iff.1 g5).1
  have g7 : us[a.toNat]=v:=by rw [List.getElem?_eq_getElem hlt] at g5; exact Option.some.inj g5
  refine ⟨v,g6,fun K hk=>op_index g1 (hc.int hy) (fun w=>?_) hN hk⟩
  have h2' : a < (n:Int):=by omega
  simp [Instr.index,asIntOf,run_underlying hU,part,hT.1 w,hT.2 w,h1,h2',List.extract_eq_take_drop,g7,g5]
theorem ix_map {α β:Type}{l:List α}{f:α→β}{i:Int}{e:α}(h:ix l i=some e) : ix (l.map f) i=some (f e):=by
 unfold ix at h ⊢
 split at h
 ·rename_i h0; rw [if_pos h0,List.getElem?_map,h]; rfl
 ·cases h
end
end Go.Ab
namespace Go.Ab
open Go.RowKit Go.Shelf Go.Proofs Go.Eng
section
variable {P:Program} {N:Ev} {X:Cx} {Q:zBa} {st:AS}
variable {d:Nat} {T U T':TypeId} {pos:String} {aft:Array Edge} {g:Option (Nat×Bool)} {x y z:Operand}
end
end Go.Ab
namespace Go.Ab
abbrev ZC:=(Str×Str)
abbrev ZN:=List ZC
abbrev ZM:=List (ZC×zDL)
abbrev ZB:=ZC×Str×Int×Bool
abbrev ZE:=List (ZB)
abbrev ZX:=Int×Int×Int×Int×ZN×Str
abbrev ZR:=Int×ZE
abbrev ZL:=List (ZR)
abbrev ZQ:=ZL×Int
abbrev ZP:=List (Int×(ZM))×Int×Int
end Go.Ab
namespace Go.Ab
open Go.RowKit Go.Shelf Go.Proofs Go.Eng

theorem pk_rep {H:AH}{m:Mem}{ρ:List Value}{φ:List Frag}(hc:∀ (j:Nat) (h:Value),ρ[j]?=some h→ORep m ρ (H.get j) h (φ.getD j [])){v:OT}(hv:v.node=true){x:v.den}{av:AV}{js:List Nat}{n:Nat}{u:Value}(h:Pk H v x [av] js) (hn:js.head?=some n) (hu:ρ[n]?=some u) (h1:u.oneCell'=true) : RepA m ρ av u:=by
 cases v with
 | dat t=>simp [OT.node] at hv
 | pair a b=>simp [OT.node] at hv
 | sl E e =>
  cases e with
  | dat t =>
   rcases h with ⟨j,h2,h3,rfl⟩ | ⟨_,_,rfl⟩
   ·cases h2; simp at hn; subst hn; simp only [RepA]; exact ⟨hu,h1⟩
   ·simp at hn
  | sl=>exact h.elim
  | mp=>exact h.elim
  | pt=>exact h.elim
  | pair=>exact h.elim
 | mp k e =>
  have key : ∀ j : Nat,[av]=[.map j]→js=[j]→RepA m ρ av u:=by
   intro j h2 h3
   cases h2; subst h3; simp at hn; subst hn; simp only [RepA]; exact ⟨hu,h1⟩
  cases e with
  | dat t=>obtain ⟨j,h2,_,h3⟩:=h; exact key j h2 h3
  | sl=>obtain ⟨j,h2,_,h3⟩:=h; exact key j h2 h3
  | mp=>obtain ⟨j,h2,_,h3⟩:=h; exact key j h2 h3
  | pt=>obtain ⟨j,h2,_,h3⟩:=h; exact key j h2 h3
  | pair=>obtain ⟨j,h2,_,h3⟩:=h; exact key j h2 h3
 | pt T e =>
  obtain ⟨j,us,l,h2,h3,rfl,_⟩:=h
  cases h2; simp at hn; subst hn
  have ho:=hc _ _ hu
  rw [h3] at ho
  obtain ⟨b,us',h4,_⟩:=ho
  simp only [RepA]; exact ⟨b,by rw [← h4]; exact hu,h4⟩

section
variable {P:Program} {N:Ev} {X:Cx} {Q:zBa} {st:AS}
variable {d:Nat} {T U T':TypeId} {pos:String} {aft:Array Edge} {g:Option (Nat×Bool)} {x y z:Operand}

theorem wk_close {i n:Nat}{k:Ty}{v:OT} [DecidableEq k.den] {xs:List (k.den×v.den)}{hs hs':List (k.den×Nat)}{kx:k.den}(y0 yx:v.den){js:List Nat}{av:AV}(hH:st.H.get i=.mpt k v xs hs) (hm:(kx,n)∈hs) (hg:mget xs kx=some y0) (hP:Pk st.H v yx [av] js) (hd:js.head?=some n)
  (hj:(zCn (i::js)&&(i::js).all fun j=>Nat.blt j st.n)=true) (hh:HolesTo kx hs hs') : Wk X st ⟨st.l,(i,.mpt k v (mset xs kx yx) hs')::killH js st.H,st.n⟩:=by
 intro fr w m ρ φ hc
 simp only [Bool.and_eq_true,List.all_eq_true] at hj
 obtain ⟨hj1,hj2⟩:=hj
 have hnd:=zCS hj1
 have hl : ∀ j∈i::js,j < st.n:=fun j hj=>by simpa using hj2 j hj
 have hil : i < st.n:=hl i (by simp)
 obtain ⟨u,hu⟩ : ∃ u,ρ[i]?=some u:=⟨_,List.getElem?_eq_getElem (by rw [hc.nρ]; exact hil)⟩
 obtain ⟨f,hf,hor0,hw⟩:=hc.obj hu
 rw [hH] at hor0
 obtain ⟨hv,hho,xs',hp,b,es,cl,fs,rfl,rfl,h1,h2,h3,h4⟩:=hor0
 have he:=ent3_of (m:=m) (ρ:=ρ) h1 h2 h4
 have hg':=(zDV hp h3.1 kx).trans hg
 obtain ⟨p,g1,g2⟩:=mget_at hg'
 have hpl:=(List.getElem?_eq_some_iff.1 g1).1
 have g3 : es.toList[p]?=some (es.toList[p]'(by omega)):=List.getElem?_eq_getElem _
 have g4 : fs[p]?=some (fs[p]'(by omega)):=List.getElem?_eq_getElem _
 have hE:=h4 p _ _ _ g1 g3 g4
 obtain ⟨hgn,hun⟩:=hE.2.1 n hm
 rw [hgn] at g4
 have hor : OR m v yx [(es.toList[p]'(by omega)).val] (js.flatMap fun j=>φ.getD j []):=pk_or hc.objD hP (by simp only [RepL]; exact ⟨pk_rep hc.objD hv hP hd hun hE.1.2,trivial⟩)
 have hE3 : Ent3 m ρ k v hs' (mset xs' kx yx) (es.toList.modify p fun e=>e) (fs.set p (js.flatMap fun j=>φ.getD j [])) :=
  ent3_set hh.1 he h3.1 (by rw [g1]; rfl) g3 g2 _ ⟨hE.1,fun n hn=>absurd hn (hh.2 n),fun _=>hor⟩
 have hid : (es.toList.modify p fun e=>e)=es.toList:=List.modify_id _ _
 rw [hid] at hE3
 have hbf:=hc.before hnd hl
 rw [List.flatMap_cons,List.getD_eq_getElem?_getD,hf,Option.getD_some,List.cons_append,List.cons_append] at hbf
 obtain ⟨p1,p2⟩:=zBl g4 (js.flatMap fun j=>φ.getD j [])
 have hsh : SH X.e w m (((b,.map es cl)::(fs.set p (js.flatMap fun j=>φ.getD j [])).flatten)++((killF φ (i::js)).flatten++X.F)):=by
  refine hbf.perm ?_
  rw [List.cons_append]
  refine List.Perm.cons _ (List.Perm.append_right _ ?_)
  rw [List.nil_append] at p1
  exact (p1.append_right _).trans (List.perm_append_comm.trans p2.symm)
 obtain ⟨l1,l2,l3⟩:=ent3_get hE3
 refine ⟨m,ρ,_,hc.fall hnd (fun j hj=>hl j (by simp [hj])) hu (o:=.mpt _ v (mset xs kx yx) hs') ⟨hv,fun q hq=>?_,_,mset_perm hp h3.1 kx yx,b,es,cl,_,rfl,rfl,l1,l2,⟨zBZ _ _ h3.1,h3.2⟩,l3⟩ hsh⟩
 obtain ⟨z,n'⟩:=q
 have hz : z≠kx:=by rintro rfl; exact hh.2 n' hq
 have:=hho _ ((hh.1 z n' hz).2 hq)
 exact ⟨this.1,fun h=>this.2 (mset_keys_sub h)⟩

theorem ent3_erase {m:Mem}{ρ:List Value}{k:Ty}{v:OT}{hs:List (k.den×Nat)} : ∀ {x:List (k.den×v.den)}{es:List MapEntry}{fs:List Frag}(i:Nat),Ent3 m ρ k v hs x es fs→Ent3 m ρ k v hs (x.eraseIdx i) (es.eraseIdx i) (fs.eraseIdx i):=by
 intro x
 induction x with
 | nil=>intro es fs i h; cases es with
  | nil=>cases fs with
   | nil=>simpa using h
   | cons=>exact h.elim
  | cons=>exact h.elim
 | cons p x ih=>intro es fs i h; cases es with
  | nil=>exact h.elim
  | cons e es=>cases fs with
   | nil=>exact h.elim
   | cons g fs=>cases i with
    | zero=>exact h.2
    | succ i=>exact ⟨h.1,ih i h.2⟩
theorem mdel_keys_sub {α β:Type} [DecidableEq α] : ∀ {x:List (α×β)}{k z:α},z≠k→z∈x.map (·.1)→z∈(mdel x k).map (·.1):=by
 intro x
 induction x with
 | nil=>intro k z _ h; simp at h
 | cons p x ih =>
  intro k z hz h
  simp only [mdel]
  rw [List.map_cons,List.mem_cons] at h
  split
  ·rename_i e
   rcases h with h | h
   ·exact absurd (h.trans e.symm) hz
   ·exact h
  ·rw [List.map_cons,List.mem_cons]
   rcases h with h | h
   ·exact .inl h
   ·exact .inr (ih hz h)
theorem mdel_notin {α β:Type} [DecidableEq α] : ∀ {x:List (α×β)}{k:α},(x.map (·.1)).Nodup→k∉(mdel x k).map (·.1):=by
 intro x
 induction x with
 | nil=>intro k _ h; simp [mdel] at h
 | cons p x ih =>
  intro k hn h
  rw [List.map_cons,List.nodup_cons] at hn
  simp only [mdel] at h
  split at h
  ·rename_i e; rw [e] at h; exact hn.1 h
  ·rename_i e
   rw [List.map_cons,List.mem_cons] at h
   rcases h with h | h
   ·exact e h
   ·exact ih hn.2 h
theorem map_fst_at {α β γ:Type}{x:List (α×β)}{y:List (α×γ)}(h:x.map (·.1)=y.map (·.1)) (i:Nat) : (x[i]?).map (·.1)=(y[i]?).map (·.1):=by
 rw [← List.getElem?_map,← List.getElem?_map,h]

theorem aop_mptDel {i kT eT T2:Nat}{k:Ty}{v:OT} [DecidableEq k.den] {xs:List (k.den×v.den)}{hs hs':List (k.den×Nat)}{kx:k.den}{cl:Array Operand}{ts:Array TypeId}{dst:Option Nat}{K:AS→Prop}(hcl:cl=#[x,y]) (hts:ts=#[T,T2]) (hd:dst=none) (hU:Und P T (.map kT eT)) (hK:KeyT P kT k) (hx:aev st.l x=some (.map i)) (hy:aev st.l y=some (zBx k kx)) (hH:st.H.get i=.mpt k v xs hs) (hno:k.fit kx=true) (hh:HolesTo kx hs hs')
  (k:K (st.upd i (.mpt k v (mdel xs kx) hs'))) : AOp P N X ⟨dst,.call ⟨.builtin .delete,cl,ts⟩,U,pos,aft,g⟩ K st :=
 zBH fun Q fr w m ρ φ hc K' hK'=>by
  subst hcl hts hd
  obtain ⟨vv,h1,h2⟩:=hc.ev hx
  obtain ⟨kv,h3,h4⟩:=hc.ev hy
  obtain ⟨hv,hho,xs',hp,b,es,cl,fs,rfl,hρ,hf,hw,he,hkn,hBi⟩:=own_mpt hc h2 hH
  obtain ⟨xr,r1,r2,r3⟩:=raw3 he
  obtain ⟨es',hr,hes⟩:=run_delete (ty:=U) (T2:=T2) hU hK hw r1 (zCm hno h4)
  obtain ⟨hP,hb'⟩:=zDm (o':=.map es' cl) hw
  have hfr:=hc.front hf
  have hni:=mdel_notin (k:=kx) hkn
  have key : ∃ fs' g0,Ent3 m ρ _ v hs' (mdel xs' kx) es'.toList fs'∧zCP es' cl∧fs.flatten.Perm (g0++fs'.flatten):=by
   rcases hes with ⟨rfl,h⟩ | ⟨j,rfl,h,h'⟩
   ·have h0 : kx∉xs'.map (·.1):=by rw [← r2]; exact zDd.1 h
    rw [mdel_none (zDd.2 h0)]
    exact ⟨fs,[],ent3_hs hh.1 h0 he,hBi,by simp⟩
   ·have q1 : (xs'[j]?).map (·.1)=some kx:=(map_fst_at r2 j).symm.trans h
    have q2 : ∀ l,l < j→(xs'[l]?).map (·.1)≠some kx:=fun l hl=>by rw [← map_fst_at r2 l]; exact h' l hl
    have hE:=mdel_erase q1 q2
    have e3:=ent3_erase j he
    rw [← hE] at e3
    rw [zCK]
    obtain ⟨s1,s2,s3⟩:=ent3_get he
    have hjl : j < fs.length:=by
     rw [s2]
     cases hq : xs'[j]? with
     | none=>rw [hq] at q1; cases q1
     | some q=>exact (List.getElem?_eq_some_iff.1 hq).1
    have g4 : fs[j]?=some (fs[j]'hjl):=List.getElem?_eq_getElem _
    obtain ⟨p1,p2⟩:=zBl g4 []
    exact ⟨fs.eraseIdx j,fs[j]'hjl,ent3_hs hh.1 hni e3,births_erase hBi j,p1⟩
  obtain ⟨fs',g0,e1,e2,e3⟩:=key
  obtain ⟨l1,l2,l3⟩:=ent3_get e1
  have hpt:=hfr.put hP hb' rfl
  have hsh : SH X.e { w with heap:=w.heap.setIfInBounds b (.map es' cl) } m (((b,.map es' cl)::fs'.flatten)++((φ.eraseIdx i).flatten++X.F)):=by
   refine SH.tail (f:=g0) (hpt.perm ?_)
   have h8 : ((b,Obj.map es' cl)::(fs.flatten++((φ.eraseIdx i).flatten++X.F))).Perm ((b,Obj.map es' cl)::((g0++fs'.flatten)++((φ.eraseIdx i).flatten++X.F))):=List.Perm.cons _ (e3.append_right _)
   refine h8.trans ?_
   rw [List.append_assoc]
   exact List.perm_middle.symm
  refine op_valN (v:=.tuple #[]) (w':={ w with heap:=w.heap.setIfInBounds b (.map es' cl) }) rfl (fun ac ha=>?_) ?_ (dk_put hP hw rfl)
  ·simp [execOp,resolve,invoke,builtin,ha.eval h1,ha.eval h3,hr]
  ·refine hK' _ _ (st.upd i (.mpt _ v (mdel xs kx) hs')) _ _ _ (hc.turn hρ hf (f':=(b,.map es' cl)::fs'.flatten) hsh ⟨hv,fun q hq=>?_,_,mdel_perm hp hkn kx,b,es',cl,fs',rfl,rfl,l1,l2,⟨zCC _ hkn,e2⟩,l3⟩) k
   obtain ⟨z,n'⟩:=q
   have hz : z≠kx:=by rintro rfl; exact hh.2 n' hq
   have:=hho _ ((hh.1 z n' hz).2 hq)
   exact ⟨this.1,fun h=>this.2 fun hc=>h (mdel_keys_sub hz hc)⟩
end
end Go.Ab
namespace Go.Ab
open Go.RowKit Go.Shelf Go.Proofs Go.Eng

def ifN : zDL:=⟨.nilIface,rfl⟩
def ifS (T:TypeId) (s:Str) : zDL:=⟨.iface T (.string (bstr s)),rfl⟩
def ifI (T:TypeId) (k:IntKind) (z:Int) : zDL:=⟨.iface T (.int k z),rfl⟩
def isIf (c:zDL) : Bool:=match c.1 with | .nilIface=>true | .iface _ _=>true | _=>false
def isN (c:zDL) : Bool:=match c.1 with | .nilIface=>true | _=>false
def asS (A:TypeId) (c:zDL) : Option (Str×Bool):=match c.1 with
 | .nilIface=>some ([],false)
 | .iface t v=>if t=A then (match v with | .string b=>some (b.data.toList,true) | _=>none) else some ([],false)
 | _=>none
def asI (A:TypeId) (k:IntKind) (c:zDL) : Option (Int×Bool):=match c.1 with
 | .nilIface=>some (0,false)
 | .iface t v=>if t=A then (match v with | .int k' z=>if k'=k then some (z,true) else none | _=>none) else some (0,false)
 | _=>none
def dynT (c:zDL) : Option TypeId:=match c.1 with | .iface t _=>some t | _=>none

section
variable {P:Program} {N:Ev} {X:Cx} {Q:zBa} {st:AS}
variable {d:Nat} {T U T':TypeId} {pos:String} {aft:Array Edge} {g:Option (Nat×Bool)} {x y:Operand}
theorem av_mkS {s:Str}(hU:Und P T .string) (hx:aev st.l x=some (.str s)) (hN:Nat.blt d N.n=true:=by rfl) : AOpV P N X ⟨some d,.makeInterface T x,U,pos,aft,g⟩ (.val (ifS T s).1) st :=
 zA6 rfl fun Q fr w m ρ φ hc=>by
  obtain ⟨v,h1,h2⟩:=hc.ev hx
  simp only [RepA] at h2
  subst h2
  refine ⟨(ifS T s).1,by simp only [RepA],fun K hk=>zAo rfl hN (fun ac ha=>?_) hk⟩
  simp [execOp,ha.eval h1,Instr.makeInterface,run_underlying hU,ifS]
theorem av_mkI {k:IntKind}{z:Int}{k2:IntKind}(hU:Und P T (.int k2)) (hx:aev st.l x=some (.int k z)) (hN:Nat.blt d N.n=true:=by rfl) : AOpV P N X ⟨some d,.makeInterface T x,U,pos,aft,g⟩ (.val (ifI T k z).1) st :=
 zA6 rfl fun Q fr w m ρ φ hc=>by
  obtain ⟨v,h1,h2⟩:=hc.ev hx
  simp only [RepA] at h2
  subst h2
  refine ⟨(ifI T k z).1,by simp only [RepA],fun K hk=>zAo rfl hN (fun ac ha=>?_) hk⟩
  simp [execOp,ha.eval h1,Instr.makeInterface,run_underlying hU,ifI]
theorem run_assertS {A:TypeId}{c:zDL}{r:Str×Bool}{w:World}(hU:Und P A .string) (hZ:Eng.Zero P A (.string ByteArray.empty)) (h:asS A c=some r) : (Instr.typeAssert c.1 T A true).run P w=.ok (.tuple #[.string (bstr r.1),.bool r.2]) w:=by
 obtain ⟨c,hc⟩:=c
 unfold asS at h
 simp only at h
 split at h
 ·cases h
  simp [Instr.typeAssert,run_underlying hU,hZ w,bstr]
  rfl
 ·rename_i t v
  split at h
  ·rename_i ht
   subst ht
   split at h
   ·cases h
    simp [Instr.typeAssert,run_underlying hU,bstr_data]
   ·cases h
  ·rename_i ht
   cases h
   simp [Instr.typeAssert,run_underlying hU,hZ w,ht,bstr]
   rfl
 ·cases h
theorem run_assertI {A:TypeId}{k:IntKind}{c:zDL}{r:Int×Bool}{w:World}(hU:Und P A (.int k)) (hZ:Eng.Zero P A (.int k 0)) (h:asI A k c=some r) : (Instr.typeAssert c.1 T A true).run P w=.ok (.tuple #[.int k r.1,.bool r.2]) w:=by
 obtain ⟨c,hc⟩:=c
 unfold asI at h
 simp only at h
 split at h
 ·cases h
  simp [Instr.typeAssert,run_underlying hU,hZ w]
 ·rename_i t v
  split at h
  ·rename_i ht
   subst ht
   split at h
   ·rename_i k' z
    split at h
    ·rename_i hk
     subst hk
     cases h
     simp [Instr.typeAssert,run_underlying hU]
    ·cases h
   ·cases h
  ·rename_i ht
   cases h
   simp [Instr.typeAssert,run_underlying hU,hZ w,ht]
 ·cases h
theorem av_assertS {A:TypeId}{c:zDL}{r:Str×Bool}(hU:Und P A .string) (hZ:Eng.Zero P A (.string ByteArray.empty)) (hx:aev st.l x=some (.val c.1)) (h:asS A c=some r) (hN:Nat.blt d N.n=true:=by rfl) : AOpV P N X ⟨some d,.typeAssert x T A true,U,pos,aft,g⟩ (.tup [.str r.1,.bool r.2]) st :=
 zA6 rfl fun Q fr w m ρ φ hc=>by
  obtain ⟨v,h1,h2⟩:=hc.ev hx
  simp only [RepA] at h2
  subst h2
  refine ⟨.tuple [.string (bstr r.1),.bool r.2].toArray,?_,fun K hk=>zAo rfl hN (fun ac ha=>?_) hk⟩
  ·simp only [RepA]; exact ⟨_,rfl,by simp [RepL,RepA]⟩
  ·simp only [execOp,ha.eval h1,Sem.run_bind,run_assertS (T:=T) (w:=w) hU hZ h]; rfl
theorem zDe {A:TypeId}{k:IntKind}{c:zDL}{r:Int×Bool}(hU:Und P A (.int k)) (hZ:Eng.Zero P A (.int k 0)) (hx:aev st.l x=some (.val c.1)) (h:asI A k c=some r) (hN:Nat.blt d N.n=true:=by rfl) : AOpV P N X ⟨some d,.typeAssert x T A true,U,pos,aft,g⟩ (.tup [.int k r.1,.bool r.2]) st :=
 zA6 rfl fun Q fr w m ρ φ hc=>by
  obtain ⟨v,h1,h2⟩:=hc.ev hx
  simp only [RepA] at h2
  subst h2
  refine ⟨.tuple [.int k r.1,.bool r.2].toArray,?_,fun K hk=>zAo rfl hN (fun ac ha=>?_) hk⟩
  ·simp only [RepA]; exact ⟨_,rfl,by simp [RepL,RepA]⟩
  ·simp only [execOp,ha.eval h1,Sem.run_bind,run_assertI (T:=T) (w:=w) hU hZ h]; rfl
theorem if_equal {ms:Array (String×TypeId)}{w:World}{c:zDL}(hU:Und P T (.interface ms)) (hc:isIf c=true) : (Op.equal T c.1 .nilIface).run P w=.ok (isN c) w:=by
 obtain ⟨c,h1⟩:=c
 unfold Op.equal
 rw [show Op.maxDepth=9999+1 from rfl]
 unfold Op.equalIn
 unfold isIf at hc
 unfold isN
 cases c <;> simp at hc <;> simp [run_underlying hU]
def UndI (P:Program) (T:TypeId) : Prop:=(match P.underlying T with | some (.interface _)=>true | _=>false)=true
theorem UndI.und {P:Program}{T:TypeId}(h:UndI P T) : ∃ ms,Und P T (.interface ms):=by
 unfold UndI at h
 split at h
 ·rename_i ms hm; exact ⟨ms,hm⟩
 ·cases h
theorem av_ifnil {c:zDL}(hU:UndI P T) (hx:aev st.l x=some (.val c.1)) (hy:y=.const .nilIface) (hi:isIf c=true) (hN:Nat.blt d N.n=true:=by rfl) : AOpV P N X ⟨some d,.binOp .eql T x y T',U,pos,aft,g⟩ (.bool (isN c)) st :=
 zA6 rfl fun Q fr w m ρ φ hc=>by
  subst hy
  obtain ⟨ms,hU⟩:=hU.und
  obtain ⟨v,h1,h2⟩:=hc.ev hx
  simp only [RepA] at h2
  subst h2
  refine ⟨_,zAx,fun K hk=>zAo rfl hN (fun ac ha=>?_) hk⟩
  have he:=if_equal (P:=P) (w:=w) hU hi
  have h3 : ac.eval (.const .nilIface)=.nilIface:=rfl
  obtain ⟨c,hc1⟩:=c
  cases c <;> first | (simp [isIf] at hi; done) | (simp only at he h1; simp [execOp,eqGuard,binOp,ha.eval h1,h3,he])

theorem av_inv {c:zDL}{name:String}{t:TypeId}{f:FuncId}{rs:List AV}{ts:Array TypeId}{cl:Array Operand}{r:AV}(hcl:cl=#[]) (hd:dynT c=some t) (hm:∀ w v,(Go.method (P.types.size+Made.depth) t v name).run P w=.ok (f,v) w) (hr:RunsM X.m P f [.any] [] fun r H'=>r=rs∧H'=[]) (hf:Enters P f) (hx:aev st.l x=some (.val c.1)) (hrs:tupA rs=r) (hN:Nat.blt d N.n=true:=by rfl) :
  AOpV P N X ⟨some d,.call ⟨.invoke x name,cl,ts⟩,U,pos,aft,g⟩ r st:=by
 intro Q fr w m ρ φ hc
 subst hrs hcl
 obtain ⟨v,h1,h2⟩:=hc.ev hx
 simp only [RepA] at h2
 subst h2
 obtain ⟨c,hc1⟩:=c
 unfold dynT at hd
 cases c with
 | iface t' u =>
  simp only [Option.some.injEq] at hd
  subst hd
  refine op_enter (args:=[u].toArray) rfl hN (fun s hs=>?_) (ret_pure hr rfl hc (by simp [RepL,RepA])) ?_
  ·have h3:=hs.eval h1
   simp only at h3
   simp [execOp,resolve,invoke,callMethod,h3,hm,hf _ w]
  ·rintro v w' ⟨hb,m',h3,h4,h5⟩
   exact ⟨d,v,rfl,rfl,hb,m',h3,h4,h5⟩
 | _=>simp at hd
def inv2 {α:Type}(t1 t2:TypeId) (r1 r2:α) (c:zDL) : Option α:=match dynT c with
 | some t=>if t=t1 then some r1 else if t=t2 then some r2 else none
 | none=>none
theorem av_inv2 {c:zDL}{name:String}{t1 t2:TypeId}{f1 f2:FuncId}{r1 r2 r:Int}{ts:Array TypeId}{cl:Array Operand}(hcl:cl=#[]) (h:inv2 t1 t2 r1 r2 c=some r) (hm1:∀ w v,(Go.method (P.types.size+Made.depth) t1 v name).run P w=.ok (f1,v) w) (hm2:∀ w v,(Go.method (P.types.size+Made.depth) t2 v name).run P w=.ok (f2,v) w)
  (hr1:zBb P f1 [.any] [.int .i64 r1]) (hr2:zBb P f2 [.any] [.int .i64 r2]) (hf1:Enters P f1) (hf2:Enters P f2) (hx:aev st.l x=some (.val c.1)) (hN:Nat.blt d N.n=true:=by rfl) :
  AOpV P N X ⟨some d,.call ⟨.invoke x name,cl,ts⟩,U,pos,aft,g⟩ (.int .i64 r) st:=by
 unfold inv2 at h
 split at h
 ·rename_i t ht
  split at h
  ·rename_i e; subst e; cases h; exact av_inv hcl ht hm1 (Runs.x hr1) hf1 hx rfl hN
  ·split at h
   ·rename_i e; subst e; cases h; exact av_inv hcl ht hm2 (Runs.x hr2) hf2 hx rfl hN
   ·cases h
 ·cases h

theorem two_drop {e:Str×Str}{b:Bool} : (expl (.st (.pair .str .str)) e).drop (bif b then 1 else 0)=.str (bif b then e.2 else e.1)::(bif b then [] else [.str e.2]):=by cases b <;> rfl
def two_set (e:Str×Str) (b:Bool) (s:Str) : Str×Str:=bif b then (e.1,s) else (s,e.2)
theorem two_over {e:Str×Str}{b:Bool}{s:Str} : over (expl (.st (.pair .str .str)) e) (bif b then 1 else 0) [.str s]=expl (.st (.pair .str .str)) (two_set e b s):=by cases b <;> rfl
theorem two_le {b:Bool} : Nat.ble ((bif b then 1 else 0)+1) (Ty.cells (.st (.pair .str .str)))=true:=by cases b <;> rfl
theorem av_epeq {i sz z o sz' z' o' n:Nat}{E:TypeId}(hU:Und P T (.pointer E)) (hS:Sz P E (n+1)) (hx:aev st.l x=some (.ep i sz z o)) (hy:aev st.l y=some (.ep i sz' z' o')) (hN:Nat.blt d N.n=true:=by rfl) : AOpV P N X ⟨some d,.binOp .eql T x y T',U,pos,aft,g⟩ (.bool (decide (z * sz+o=z' * sz'+o'))) st :=
 zA6 rfl fun Q fr w m ρ φ hc=>by
  obtain ⟨v,h1,h2⟩:=hc.ev hx
  obtain ⟨u,h3,h4⟩:=hc.ev hy
  simp only [RepA] at h2 h4
  obtain ⟨b,_,_,h5,rfl⟩:=h2
  obtain ⟨b',_,_,h6,rfl⟩:=h4
  rw [h5] at h6
  simp only [Option.some.injEq,Value.slice.injEq,Addr.mk.injEq] at h6
  obtain ⟨⟨rfl,_⟩,_⟩:=h6
  refine ⟨_,zAx,fun K hk=>zAo rfl hN (fun ac ha=>?_) hk⟩
  have he : (Op.equal T (.pointer (some ⟨b,z * sz+o,none⟩)) (.pointer (some ⟨b,z' * sz'+o',none⟩))).run P w=.ok (decide (z * sz+o=z' * sz'+o')) w:=by
   unfold Op.equal
   rw [show Op.maxDepth=9999+1 from rfl]
   unfold Op.equalIn
   have hb : ((⟨b,z * sz+o,none⟩ : Addr) == ⟨b,z' * sz'+o',none⟩)=decide (z * sz+o=z' * sz'+o'):=by
    by_cases e : z * sz+o=z' * sz'+o'
    ·rw [e]; simp
    ·rw [decide_eq_false e]
     rw [beq_eq_false_iff_ne]
     intro h; exact e (by injection h)
   simp [run_underlying hU,hS w,sameAddr,hb]
  simp [execOp,eqGuard,binOp,ha.eval h1,ha.eval h3,he]

theorem av_index_aggS {l:List Str}{n E:Nat}{e:Str}{k:IntKind}{a:Int}(hU:Und P T (.array n E)) (hT:TyS P E false 1) (hn:Nat.beq l.length n=true) (hx:aev st.l x=some (.agg (l.map .str))) (hy:aev st.l y=some (.int k a)) (h:ix l a=some e) (hN:Nat.blt d N.n=true:=by rfl) : AOpV P N X ⟨some d,.index T x y,U,pos,aft,g⟩ (.str e) st :=
 av_index_agg1 hU hT (by simpa using hn) hx hy (ix_map h) hN
end
end Go.Ab
namespace Go.Ab
open Go.RowKit Go.Shelf Go.Proofs Go.Eng
section
variable {P:Program} {ρ:Ren}
theorem wpList_append_at {w:World}{ops:Array Oper}{rest:List Oper}{o:Oper}{a:Act}{Q:Exit→Act→World→Prop}(hgd:o.guard=none) (s x:Operand) (t:TypeId)
  (ho:o.op=.call { callee:=.builtin .append,args:=#[s,x],argTypes:=#[t,t] })
  (base:Nat) (e:TypeId) (i:TypeInfo) (z:Value) (size bytes:Nat) (ht:P.underlying t=some (.slice e)) (hi:P.info? e=some i) (hz:i.zero=some z)
  (hsize:i.size=size) (hby:i.bytes=bytes) (hzs:z.cells.size=size) (hsz:0 < size)
  (v:Value) (n:Nat) (xs:List Value) (hs:a.eval s=v) (hown:w.ownsRow base e size v n xs)
  (ad:Addr) (m c:Nat) (news:List Value) (hx:a.eval x=.slice (some ad) m c) (hl:news.length=m * size) (hnews:∀ j u,news[j]?=some u→w.cell? (ad.add j)=some u) (h1:∀ u∈news,u.oneCell'=true)
  (h63:n+m≤maxLen) (hbytes:(n+m) * bytes≤140737488355328) (hbase:base≤w.heap.size)
  (h:∀ v' w',w'.ownsRow base e size v' (n+m) (xs++news)→w.grownBy w' v.ownBlock→(v'.ownBlock=v.ownBlock∨v'.ownBlock=some w.heap.size)→wpList P ops Q rest (a.put o.dst v') w') : wpList P ops Q (o::rest) a w:=by
 refine wpList_plain hgd fun K hK=>?_
 obtain ⟨v',w',hr,h2,h3,h4,h5⟩:=run_append_own_at (P:=P) (w:=w) base t o.type e i z size bytes ht hi hz hsize hby hzs hsz v n xs hown ad m c news hl hnews h1 h63 hbytes hbase
 unfold Oper.wp execOp
 simp only [ho,resolve,invoke,builtin,Sem.run_bind,Sem.run_pure,Result.andThen_ok,List.map_toArray,List.map_cons,List.map_nil,hs,hx,hr]
 exact hK _ _ (h v' w' h2 h3 h5)
set_option maxHeartbeats 4000000 in
set_option maxRecDepth 100000 in
theorem bld_wb_raw (L:Lays.n167 P ρ) (X:Builder.Extra P ρ){b:Nat}{w:World}{p buf:Value}{n:Nat}{vs:List Value}(hp:p=.pointer none∨p=zDU b) (hbk:w.heap[b]?=some (.cells #[p,buf] (ρ.t 72) (0,0))) (hown:w.ownsRow 0 (ρ.t 5) 1 buf n vs) (hne:buf.ownBlock≠some b) (c:Int) (hn:n+1≤zC8) :
  Calls P (ρ.f 167) #[zDU b,.int .u8 c] w fun e w'=>e=.returned .nilIface∧∃ w1 wA w2 v',Put w w1 b∧w1.heap[b]?=some (.cells #[zDU b,buf] (ρ.t 72) (0,0))∧Below w1.heap.size w1 wA∧w2.ownsRow 0 (ρ.t 5) 1 v' (n+1) (vs++[.int .u8 c])∧wA.grownBy w2 buf.ownBlock∧(v'.ownBlock=buf.ownBlock∨v'.ownBlock=some wA.heap.size)∧w2.heap[b]?=some (.cells #[zDU b,buf] (ρ.t 72) (0,0))∧w'=w2.setCell ⟨b,1,none⟩ v':=by
 obtain ⟨i0,hi,hz0,hz1,hz2⟩:=info_parts X.infoByte
 have mixed:=L.mixed
 have t72:=L.t72; have a72:=L.a72; have z72:=L.z72; have v72:=L.v72; have u72:=run_underlying L.t72
 have t70:=L.t70; have a70:=L.a70; have z70:=L.z70; have v70:=L.v70; have u70:=run_underlying L.t70
 have t5:=L.t5; have a5:=L.a5; have z5:=L.z5; have v5:=L.v5; have u5:=run_underlying L.t5
 have t37:=L.t37; have a37:=L.a37; have z37:=L.z37; have v37:=L.v37; have u37:=run_underlying L.t37
 have t9:=L.t9; have a9:=L.a9; have z9:=L.z9; have v9:=L.v9; have u9:=run_underlying L.t9
 have t4:=L.t4; have a4:=L.a4; have z4:=L.z4; have v4:=L.v4; have u4:=run_underlying L.t4
 have t164:=L.t164; have a164:=L.a164; have z164:=L.z164; have v164:=L.v164; have u164:=run_underlying L.t164
 have e240 : ∀ args w,(callFunc (ρ.f 240) args).run P w=.ok (.enter (ρ.f 240) args) w:=enters_of L.f240 (by kernel_rfl) rfl
 go_enter L.f167,Body.n167_ntmps ρ
 go_wp2_with (go_at_fn (ρ.f 240); refine (bld_copy { L with } X.toX72 hp hbk).mono ?_)
 rintro e w1 ⟨rfl,hP,hbk1⟩
 have hown1 : w1.ownsRow 0 (ρ.t 5) 1 buf n vs:=by
  refine ⟨hown.1,?_⟩
  rcases hown.2 with h | ⟨g,cap,cur,rfl,h1,h2,h3⟩
  ·exact .inl h
  ·exact .inr ⟨g,cap,cur,rfl,h1,(hP.other g (by intro e; subst e; exact hne rfl)).trans h2,h3⟩
 have c0 : w1.cell? ⟨b,0,none⟩=some (zDU b):=by rw [Lib.cell_of_heap hbk1]; rfl
 have c1 : w1.cell? ⟨b,1,none⟩=some buf:=by rw [Lib.cell_of_heap hbk1]; rfl
 go_wp2_with (at_builtin; refine wpList_append_at rfl _ _ (ρ.t 37) rfl 0 (ρ.t 5) i0 (.int .u8 0) 1 1 L.t37 hi hz0 hz1 hz2 rfl (by decide) _ _ _ rfl (hown1.alloc _) ⟨w1.heap.size,0,none⟩ 1 1 [.int .u8 c] rfl rfl ?c1 ?c2 ?c3 ?c4 ?c5 ?_)
 case c1 =>
  intro j u hj
  match j,hj with
  | 0,hj=>simp at hj; subst hj; simp [Addr.add]
 case c2=>intro u hu; simp at hu; subst hu; rfl
 case c3=>have h47 : zC8=140737488355328:=rfl; unfold maxLen; omega
 case c4=>have h47 : zC8=140737488355328:=rfl; omega
 case c5=>exact Nat.zero_le _
 intro v' w2 hown' hgrow hob
 have hlt : b < w1.heap.size:=(Array.getElem?_eq_some_iff.1 hbk1).1
 have hb2 : w2.heap[b]?=some (.cells #[zDU b,buf] (ρ.t 72) (0,0)):=by
  rw [hgrow.block b (by simp; omega) (fun e=>hne e.symm),Lib.alloc_old w1 _ b hlt]
  exact hbk1
 have d0 : w2.cell? ⟨b,0,none⟩=some (zDU b):=by rw [Lib.cell_of_heap hb2]; rfl
 have d1 : w2.cell? ⟨b,1,none⟩=some buf:=by rw [Lib.cell_of_heap hb2]; rfl
 have f1 : w2.frozen? ⟨b,1,none⟩=false:=Lib.frozen_of_heap hb2 1
 obtain ⟨ao,n',cap,rfl⟩ : ∃ ao n' cap,v'=.slice ao n' cap:=by
  rcases hown'.2 with ⟨hv,_⟩ | ⟨g,cap,cur,hv,_⟩
  ·exact ⟨_,_,_,hv⟩
  ·exact ⟨_,_,_,hv⟩
 go_wp2
 go_ret
 exact ⟨rfl,w1,_,w2,_,hP,hbk1,(Below.refl _ w1).alloc (Nat.le_refl _) _,hown',hgrow,by simpa using hob,hb2,rfl⟩

theorem bld_turn2 {e w w1 wA w2:World}{m:Mem}{ρ:List Value}{F fb:Frag}{T E b:Nat}{p buf v':Value}{n:Nat}{s1:Str}(hs:SH e w m ((b,.cells #[p,buf] T (0,0))::fb++F)) (hfb:(buf.ownBlock=none∧fb=[])∨∃ b2 o,buf.ownBlock=some b2∧fb=[(b2,o)]) (hfc:∀ q∈fb,ctl q.2=false)
  (hP:Put w w1 b) (hb1:w1.heap[b]?=some (.cells #[zDU b,buf] T (0,0))) (hA:Below w1.heap.size w1 wA) (hown:w2.ownsRow 0 E 1 v' n (Lib.strCells (bstr s1))) (hn:n=s1.length) (h0:s1.length≤zC8) (hg:wA.grownBy w2 buf.ownBlock) (ho:v'.ownBlock=buf.ownBlock∨v'.ownBlock=some wA.heap.size) (hb2:w2.heap[b]?=some (.cells #[zDU b,buf] T (0,0))) :
  ∃ f',ORep m ρ (.bld T E s1) (zDU b) f'∧SH e (w2.setCell ⟨b,1,none⟩ v') m (f'++F)∧DK nox w (w2.setCell ⟨b,1,none⟩ v')∧w.heap.size≤(w2.setCell ⟨b,1,none⟩ v').heap.size:=by
 subst hn
 have h1' : SH e w1 m (fb++((b,.cells #[zDU b,buf] T (0,0))::F)):=(hs.put hP hb1 rfl).perm (by simpa using List.perm_middle.symm)
 have h1 : SH e wA m (fb++((b,.cells #[zDU b,buf] T (0,0))::F)):=h1'.ext hA
 obtain ⟨f',h2,h3⟩:=h1.grown hfb hg hown ho
 obtain ⟨hP2,hb3⟩:=setCell_put (j:=1) (v:=v') hb2
 have h4 : SH e w2 m ((b,.cells #[zDU b,buf] T (0,0))::(f'++F)):=h2.perm List.perm_middle
 have h5:=h4.put hP2 hb3 rfl
 refine ⟨_,bld_close h0 h3,h5,?_,?_⟩
 ·intro k o hk hc _
  have hkb : k≠b:=by
   rintro rfl
   have:=hs.own (k,.cells #[p,buf] T (0,0)) (by simp)
   simp only at this
   rw [hk] at this; cases this; cases hc
  have hk1 : w1.heap[k]?=some o:=(hP.other k hkb).trans hk
  have hkA : wA.heap[k]?=some o:=(hA.block k (Array.getElem?_eq_some_iff.1 hk1).1).trans hk1
  have hkn : some k≠buf.ownBlock:=by
   intro he
   rcases hfb with ⟨q,_⟩ | ⟨b2,o2,q,rfl⟩
   ·rw [q] at he; cases he
   ·rw [q] at he; cases he
    have h6:=h1.own (k,o2) (by simp)
    have h7:=hfc (k,o2) (by simp)
    simp only at h6 h7
    rw [hkA] at h6; cases h6; rw [hc] at h7; cases h7
  exact (hP2.other k hkb).trans ((hg.block k (Array.getElem?_eq_some_iff.1 hkA).1 hkn).trans hkA)
 ·have:=hP.size; have:=hA.size; have:=hP2.size; have:=hg.size; omega
theorem byte_cell {c:Int}(h0:0≤c) (h1:c < 256) : Value.int .u8 c=.int .u8 ((UInt8.ofNat c.toNat).toNat : Int):=by
 congr 1
 simp only [UInt8.toNat_ofNat']
 omega
theorem bld_wb (L:Lays.n167 P ρ) (X:Builder.Extra P ρ){s0:Str}{c:Int}(h0c:0≤c) (h1c:c < 256) (hn:strOk (s0.length+1)=true) : Runs P (ρ.f 167) [.ptr 0 0,.int .u8 c] [.bld (ρ.t 72) (ρ.t 5) s0] (fun q H'=>q=[.nili]∧H'=[.bld (ρ.t 72) (ρ.t 5) (s0++[UInt8.ofNat c.toNat])]):=by
 intro e w m ρ' φ F vs hv ho hs
 obtain ⟨b,us,h1,rfl,h2⟩:=rep2_ptr hv
 obtain ⟨u,us',rfl,h3,h4⟩:=RepL.one1 h2
 simp only [RepA] at h3
 subst h3
 cases us' with
 | cons=>simp [RepL] at h4
 | nil =>
  obtain ⟨f,rfl,rfl,hf⟩:=os_one ho h1
  have hs' : SH e w m (f++F):=by simpa using hs
  obtain ⟨h0,b',p,buf,fb,h5,hp,rfl,hown,hfb,hfc⟩:=bld_open hf (fun q hq=>hs'.own q (by simp [hq]))
  cases h5
  have hbk:=hs'.own (b,.cells #[p,buf] (ρ.t 72) (0,0)) (by simp)
  have hne : buf.ownBlock≠some b:=by
   intro he
   rcases hfb with ⟨q,_⟩ | ⟨b2,o2,q,rfl⟩
   ·rw [q] at he; cases he
   ·rw [q] at he; cases he
    have:=hs'.nd
    simp at this
  have hle : s0.length+1≤zC8:=Nat.le_of_ble_eq_true hn
  refine Calls.mono (bld_wb_raw L X hp hbk hown hne c hle) ?_
  rintro ex w' ⟨rfl,w1,wA,w2,v',a1,a2,aA,a3,a4,a5,a6,rfl⟩
  have hcat : Lib.strCells (bstr s0)++[Value.int .u8 c]=Lib.strCells (bstr (s0++[UInt8.ofNat c.toNat])):=by rw [zDX,zDX,List.map_append,byte_cell h0c h1c]; rfl
  rw [hcat] at a3
  obtain ⟨f',c1,c2,c3,c4⟩:=bld_turn2 (ρ:=[zDU b]) hs' hfb hfc a1 a2 aA a3 (by simp) (by simpa using hle) a4 a5 a6
  exact ⟨_,rfl,⟨c3,c4⟩,_,_,m,[zDU b],[f'],⟨rfl,rfl⟩,Mem.le_refl _,fun _ _ h=>h,Nat.le_refl _,os_mk c1,by simpa using c2,[.nilIface],by simp only [RepL,RepA]; exact ⟨trivial,trivial⟩,rfl⟩
end
end Go.Ab
namespace Go.Ab
open Go.RowKit Go.Shelf Go.Proofs Go.Eng
def UndS (P:Program) (T:TypeId) : Prop:=(match P.underlying T with | some (.struct _)=>true | _=>false)=true
theorem UndS.und {P:Program}{T:TypeId}(h:UndS P T) : ∃ fs,P.underlying T=some (.struct fs):=by
 unfold UndS at h
 split at h
 ·rename_i fs hm; exact ⟨fs,hm⟩
 ·cases h
abbrev ST2 : Ty:=.st (.pair .str .str)
theorem rv_st2 {m:Mem}{x:Str×Str}{v:Value}(h:RV m ST2 x v) : v=.agg #[.string (bstr x.1),.string (bstr x.2)]:=by
 unfold RV at h
 rw [if_pos (show Ty.agg ST2=true from rfl)] at h
 obtain ⟨cs,rfl,c,d,rfl,h1,h2⟩:=h
 have e1 : c=[.string (bstr x.1)]:=h1
 have e2 : d=[.string (bstr x.2)]:=h2
 subst e1 e2
 rfl
theorem eq_st2 {x y:Str×Str} : zB7 (zBi [.string (bstr x.1),.string (bstr x.2)] [.string (bstr y.1),.string (bstr y.2)])=decide (x=y):=by
 obtain ⟨a,b⟩:=x
 obtain ⟨c,d⟩:=y
 have h1 : ∀ s t : Str,decide (bstr s=bstr t)=decide (s=t):=fun s t=>by
  by_cases h : s=t
  ·subst h; simp
  ·have : bstr s≠bstr t:=fun e=>h (bstr_inj e)
   simp [h,this]
 simp only [zBi,cellEq,zB7]
 by_cases h2 : a=c <;> by_cases h3 : b=d
 ·subst h2 h3; simp
 ·subst h2
  have : bstr b≠bstr d:=fun e=>h3 (bstr_inj e)
  simp [h3,this]
 ·subst h3
  have : bstr a≠bstr c:=fun e=>h2 (bstr_inj e)
  simp [h2,this]
 ·have e1 : bstr b≠bstr d:=fun e=>h3 (bstr_inj e)
  have e2 : bstr a≠bstr c:=fun e=>h2 (bstr_inj e)
  simp [h2,h3,e1,e2]
theorem keyT_st2 {P:Program}{kT:TypeId} [inst : DecidableEq ST2.den] (hU:UndS P kT) (hE:∀ a0 b0 a1 b1 : ByteArray,EqT P kT [.string a0,.string a1] [.string b0,.string b1]) (hC:∀ (em:Bool) (a b:ByteArray) (w:World),(Instr.checkKey em 10000 kT (.agg #[.string a,.string b])).run P w=.ok () w) : KeyT P kT ST2:=by
 obtain ⟨fs,hU⟩:=hU.und
 have heq : ∀ (w:World) (x y:Str×Str),(Op.equal kT (.agg #[.string (bstr x.1),.string (bstr x.2)]) (.agg #[.string (bstr y.1),.string (bstr y.2)])).run P w=.ok (decide (x=y)) w:=fun w x y=>by
  refine Eq.trans ((hE (bstr x.1) (bstr y.1) (bstr x.2) (bstr y.2)).2 w) ?_
  rw [eq_st2]
  congr
 refine ⟨fun m x v em w h=>?_,fun m x v tv xs es w hk he=>?_,fun m x u v w hu hv=>?_⟩
 ·rw [rv_st2 h]; exact hC em _ _ w
 ·obtain rfl:=rv_st2 hk
  have ask : ∀ {xs:List ((Str×Str)×tv.den)} {es:List MapEntry} (i:Nat),EntL m ST2 tv xs es→∃ r,(Instr.findAsking kT (.agg #[.string (bstr x.1),.string (bstr x.2)]) es i).run P w=.ok r w∧match r with
    | none=>mget (α:=ST2.den) xs x=none
    | some (q,u)=>i≤q∧∃ y,mget (α:=ST2.den) xs x=some y∧RV m tv y u∧(xs[q - i]?).map (·.1)=some x∧(∃ e : MapEntry,es[q - i]?=some e)∧∀ j,j < q - i→(xs[j]?).map (·.1)≠some x:=by
   intro xs
   induction xs with
   | nil=>intro es i h; cases es with
    | nil=>exact ⟨none,by simp [Instr.findAsking],rfl⟩
    | cons=>exact h.elim
   | cons p xs ih=>intro es i h; cases es with
    | nil=>exact h.elim
    | cons e es =>
     have hpe:=rv_st2 h.1.1
     simp only [Instr.findAsking,Sem.run_bind,hpe,heq w x p.1,Result.andThen_ok]
     by_cases hkp : x=p.1
     ·rw [decide_eq_true hkp]
      refine ⟨some (i,e.val),by simp,Nat.le_refl _,p.2,by simp [mget,hkp],h.1.2,by simp [hkp],⟨e,by simp⟩,fun j hj=>absurd hj (by omega)⟩
     ·rw [decide_eq_false hkp]
      obtain ⟨r,h1,h2⟩:=ih (i+1) h.2
      refine ⟨r,by simpa using h1,?_⟩
      cases r with
      | none=>simp only [mget,if_neg hkp]; exact h2
      | some q =>
       obtain ⟨q,u⟩:=q
       obtain ⟨h3,y,h4,h5,h6,⟨e',h7⟩,h8⟩:=h2
       have hq : q - i=(q - (i+1))+1:=by omega
       refine ⟨by omega,y,by simp only [mget,if_neg hkp]; exact h4,h5,by rw [hq]; simpa using h6,⟨e',by rw [hq]; simpa using h7⟩,fun j hj=>?_⟩
       cases j with
       | zero=>simp; exact fun e=>hkp e.symm
       | succ j=>simpa using h8 j (by omega)
  cases es with
  | nil =>
   refine ⟨none,by simp [Instr.findKey,run_underlying hU,Instr.findNow],?_⟩
   cases xs with
   | nil=>rfl
   | cons=>exact he.elim
  | cons e es =>
   obtain ⟨r,h1,h2⟩:=ask 0 he
   refine ⟨r,?_,?_⟩
   ·simp only [Instr.findKey,Sem.run_bind,run_underlying hU,Result.andThen_ok,Instr.findNow,Instr.sameNow]
    exact h1
   ·cases r with
    | none=>exact h2
    | some q =>
     obtain ⟨q,u⟩:=q
     obtain ⟨_,y,h3,h4,h5,h6,h7⟩:=h2
     exact ⟨y,h3,h4,by simpa using h5,by simpa using h6,by simpa using h7⟩
 ·obtain rfl:=rv_st2 hu
  obtain rfl:=rv_st2 hv
  have hs : Instr.sameBits 10000 (.agg #[.string (bstr x.1),.string (bstr x.2)]) (.agg #[.string (bstr x.1),.string (bstr x.2)])=true:=by
   show Instr.sameBits (9999+1) _ _=true
   simp only [Instr.sameBits,beq_self_eq_true,Bool.true_and,List.all_eq_true]
   intro p hp
   simp at hp
   rcases hp with rfl | rfl <;> simp [Instr.sameBits,bstr_beq]
  simp [Instr.keyThatStays,hs]
end Go.Ab
namespace Go.Ab
open Go.RowKit Go.Shelf Go.Proofs Go.Eng
section
variable {P:Program} {N:Ev} {X:Cx} {Q:zBa} {st:AS}
variable {d:Nat} {T U T':TypeId} {pos:String} {aft:Array Edge} {g:Option (Nat×Bool)} {x y:Operand}
theorem av_look_any {i kT eT:Nat}{k:Ty}{v:OT} [DecidableEq k.den] {xs:List (k.den×v.den)}{hs:List (k.den×Nat)}{kx:k.den}{zv:Value}(hU:Und P T (.map kT eT)) (hK:KeyT P kT k) (hZ:Eng.Zero P eT zv) (hx:aev st.l x=some (.map i)) (hy:aev st.l y=some (zBx k kx)) (hH:st.H.get i=.mpt k v xs hs) (hno:k.fit kx=true) (hN:Nat.blt d N.n=true:=by rfl) :
  AOpV P N X ⟨some d,.lookup T x y true,U,pos,aft,g⟩ (.tup [.any,.bool (mget xs kx).isSome]) st :=
 zA6 rfl fun Q fr w m ρ φ hc=>by
  obtain ⟨v,h1,h2⟩:=hc.ev hx
  obtain ⟨u,h3,h4⟩:=hc.ev hy
  obtain ⟨_,hho,xs',hp,b,es,cl,fs,rfl,_,_,h5,h6,hn',_⟩:=own_mpt hc h2 hH
  obtain ⟨q,h7,h8⟩:=run_lookup3 (ok:=true) hU hK hZ h5 h6 (zCm hno h4)
  rw [zDV hp hn'] at h7
  refine ⟨.tuple [q,.bool (mget xs kx).isSome].toArray,?_,fun K hk=>zAo rfl hN (fun ac ha=>?_) hk⟩
  ·simp only [RepA]; exact ⟨_,rfl,by simp [RepL,RepA]⟩
  ·simp only [execOp,ha.eval h1,ha.eval h3]
   rw [Sem.run_bind,h7]; rfl
end
end Go.Ab
namespace Go.Eng
open Go.RowKit Go.Shelf Go.Proofs
section
variable {P:Program} {w:World}
theorem run_partS {T n:Nat}{gs:Array Field}{xs:Array Value}{o:Nat}(hu:P.underlying T=some (.struct gs)) (hs:∀ w,(sizeOf T).run P w=.ok n w) : (part T xs o).run P w=.ok (.agg (xs.extract o (o+n))) w:=by
 simp [part,Sem.run_bind,isAgg,run_underlying hu,hs w]
theorem andAll_app : ∀ (a b:List Bool),zB7 (a++b)=(zB7 a&&zB7 b):=by
 have hc : ∀ (x:Bool) (l:List Bool),zB7 (x::l)=(x&&zB7 l):=by
  intro x l; cases l <;> simp [zB7]
 intro a
 induction a with
 | nil=>intro b; simp [zB7]
 | cons x a ih=>intro b; rw [List.cons_append,hc,hc,ih,Bool.and_assoc]
theorem eqCells_app : ∀ {a b:List Value}{c d:List Value},a.length=b.length→zBi (a++c) (b++d)=zBi a b++zBi c d:=by
 intro a
 induction a with
 | nil=>intro b c d h; cases b with
  | nil=>rfl
  | cons=>simp at h
 | cons x a ih=>intro b c d h; cases b with
  | nil=>simp at h
  | cons y b=>simp only [List.cons_append,zBi]; rw [ih (by simpa using h)]
theorem run_eqNest {d t n : Nat} {f0 : Field} {fs gs : List Field} {X0 Y0 X Y : List Value} (hu : P.underlying t = some (.struct (f0 :: fs).toArray)) (hp : P.stoodInHeld t = false) (hn : (f0.name != "_") = true) (ho : Nat.beq f0.offset 0 = true)
  (hu0:P.underlying f0.type=some (.struct gs.toArray)) (hp0:P.stoodInHeld f0.type=false) (hs:∀ w,(sizeOf f0.type).run P w=.ok n w) (hl:(Nat.beq X0.length n&&Nat.beq Y0.length n)=true) (hf0:flatFs P 0 gs=true) (hx0:pairsFs P gs X0 Y0=true) (hf:flatFs P n fs=true) (hx:pairsFs P fs X Y=true) :
  (Op.equalIn (d+4) t (.agg (X0++X).toArray) (.agg (Y0++Y).toArray)).run P w=.ok (zB7 (zBi (X0++X) (Y0++Y))) w:=by
 simp only [Bool.and_eq_true] at hl
 have l1:=Nat.eq_of_beq_eq_true hl.1
 have l2:=Nat.eq_of_beq_eq_true hl.2
 have ho:=Nat.eq_of_beq_eq_true ho
 have hn' : f0.name ≠ "_" := by simpa using hn
 have hfo : P.fieldsOf t=(f0::fs).toArray:=by simp [Program.fieldsOf,hu]
 rw [run_equalIn_struct w (d+3) t _ _ (by rw [hfo]; exact hu) hp,hfo]
 have e1 : (X0++X).toArray.extract 0 (0+n)=X0.toArray:=by rw [← l1]; apply Array.ext'; simp
 have e2 : (Y0++Y).toArray.extract 0 (0+n)=Y0.toArray:=by rw [← l2]; apply Array.ext'; simp
 have hrest : (Op.eqFields (d+2+1) (X0++X).toArray (Y0++Y).toArray fs).run P w=.ok (zB7 (zBi X Y)) w :=
  run_eqFields hf hx (by rw [← l1]; simp) (by rw [← l2]; simp)
 show (Op.eqFields (d+2+1) _ _ (f0::fs)).run P w=_
 rw [Op.eqFields,if_pos hn']
 simp only [Sem.run_bind,ho,run_partS hu0 hs,e1,e2,Result.andThen_ok,run_eqFlat hu0 hp0 hf0 hx0]
 rw [eqCells_app (by omega),andAll_app]
 cases hc : zB7 (zBi X0 Y0) with
 | false=>simp
 | true=>simp [hrest]
end
end Go.Eng
namespace Go.Ab
open Go.RowKit Go.Shelf Go.Proofs Go.Eng
section
variable {P:Program} {N:Ev} {X:Cx} {Q:zBa} {st:AS}
variable {d:Nat} {T T' U:TypeId} {pos:String} {aft:Array Edge} {g:Option (Nat×Bool)} {x y:Operand}
theorem av_epnil {E:TypeId}{i sz z o:Nat}(hU:Und P T (.pointer E)) (hx:aev st.l x=some (.ep i sz z o)) (hy:aev st.l y=some .nilp) (hN:Nat.blt d N.n=true:=by rfl) : AOpV P N X ⟨some d,.binOp .eql T x y T',U,pos,aft,g⟩ (.bool false) st :=
 zA6 rfl fun Q fr w m ρ φ hc=>by
  obtain ⟨v,h1,h2⟩:=hc.ev hx
  obtain ⟨u,h3,h4⟩:=hc.ev hy
  simp only [RepA] at h2 h4
  obtain ⟨b,n,c,_,rfl⟩:=h2
  subst h4
  refine ⟨_,zAx,fun K hk=>zAo rfl hN (fun ac ha=>?_) hk⟩
  have he:=ptr_equal (w:=w) hU (some ⟨b,z * sz+o,none⟩) none rfl
  simp [execOp,eqGuard,binOp,ha.eval h1,ha.eval h3,he]
theorem av_mono {o:Oper}{a a':AV}(h:AOpV P N X o a st) (hm:∀ m ρ v,RepA m ρ a v→RepA m ρ a' v) : AOpV P N X o a' st:=by
 intro Q fr w m ρ φ hc
 intro ac ha hg
 refine Oper.wpIn_mono ?_ (h Q fr w m ρ φ hc ac ha hg)
 rintro ac' w' ⟨l,hl,hg',d,v,h1,h2,h3,m',h4,h5,h6⟩
 exact ⟨l,hl,hg',d,v,h1,h2,h3,m',h4,h5,hm _ _ _ h6⟩
def nilL : List AV→List AV→Prop
 | [],[]=>True
 | a'::r,a::s=>(a'=a∨∃ t,a=.nils∧a'=.sl t [])∧nilL r s
 | _,_=>False
theorem nilL_rep {m:Mem}{ρ:List Value} : ∀ {as' bs:List AV}{vs:List Value},nilL as' bs→RepL m ρ bs vs→RepL m ρ as' vs:=by
 intro as'
 induction as' with
 | nil=>intro bs vs h hr; cases bs with
  | nil=>exact hr
  | cons=>exact h.elim
 | cons a as' ih=>intro bs vs h hr; cases bs with
  | nil=>exact h.elim
  | cons b bs=>cases vs with
   | nil=>simp [RepL] at hr
   | cons v vs =>
    simp only [RepL] at hr ⊢
    refine ⟨?_,ih h.2 hr.2⟩
    rcases h.1 with rfl | ⟨t,rfl,rfl⟩
    ·exact hr.1
    ·exact cv_rep cv2 hr.1
theorem av_nilL {o:Oper}{cs cs':List AV}(h:AOpV P N X o (.agg cs) st) (hn:nilL cs' cs) : AOpV P N X o (.agg cs') st :=
 av_mono h fun m ρ v hr=>by
  simp only [RepA] at hr ⊢
  obtain ⟨us,h1,h2,h3⟩:=hr
  exact ⟨us,h1,nilL_rep hn h2,h3⟩
theorem av_callBP {f:FuncId}{xs:List Operand}{as' bs:List AV}{ts:Array TypeId}{t:Ty}{z:Option t.den}(hr:RunsM X.m P f bs [] fun r H'=>r=[.pd t z]∧H'=[]) (hf:Enters P f) (hx:xs.map (aev st.l)=as'.map some) (hbs:cvL bs (as'.map (zBI st.H [] 4))) (hN:Nat.blt d N.n=true:=by rfl) :
  AOpV P N X ⟨some d,.call ⟨.value (.func f),xs.toArray,ts⟩,U,pos,aft,g⟩ (.pd .unit (z.map fun _=>())) st:=by
 intro Q fr w m ρ φ hc
 obtain ⟨vs,h1,h2⟩:=hc.evl hx
 have hv : RepL (allM w []) [] bs vs:=cvL_rep hbs (bor_repL hc h2)
 have hsh : SH X.e w (allM w []) []:=⟨hc.sh.os,hc.sh.tape,hc.sh.output,fun b o hb=>(of_allM hb).1,fun p hp=>by simp at hp,by simp,fun p hp=>by simp at hp,fun p hp=>by simp at hp,fun b o hb=>(of_allM hb).2,hc.sh.esz⟩
 have hret : Ret P f vs.toArray w fun v w'=>Below w.heap.size w w'∧RepA m ρ (.pd .unit (z.map fun _=>())) v:=by
  refine Calls.mono (hr X.e w _ [] [] [] vs (hc.mle.trans (le_allM hc.sh)) hv ⟨rfl,rfl,fun i o h f hi=>by simp at hi⟩ (by simpa using hsh)) ?_
  rintro e w' ⟨v,he,hd,rs',H',m',ρ',φ',⟨rfl,rfl⟩,hm,_,_,ho,hs,us,hu,rfl⟩
  have hφ : φ'=[]:=List.eq_nil_of_length_eq_zero ho.nφ
  subst hφ
  refine ⟨_,he,hd,zDq hsh (by simpa using hs) hm hd.2 hd.1,?_⟩
  match us,hu with
  | [u],⟨hu,_⟩ =>
   show RC m (.ptr .unit) _ [_]
   rcases hu with ⟨rfl,h⟩ | ⟨y,b,o,us,rfl,h,_,_⟩
   ·exact .inl ⟨rfl,h⟩
   ·exact .inr ⟨(),b,o,[],rfl,h,rfl,fun j v hj=>by simp at hj⟩
 refine zDf hf h1 hret hN ?_
 rintro v w' ⟨hb,h5⟩
 exact ⟨d,v,rfl,rfl,hb,m,Mem.le_refl _,hc.sh.ext hb,h5⟩
theorem zDH {α β:Type} [DecidableEq α] {x:List (α×β)}{k:α}{y:β}(h:(mget x k).isSome=true) : mget x k=some ((mget x k).getD y):=by
 cases hm : mget x k with
 | none=>rw [hm] at h; cases h
 | some z=>rfl
theorem isNone_mget {α β:Type} [DecidableEq α] {x:List (α×β)}{k:α}(h:(mget x k).isSome=false) : mget x k=none:=by
 cases hm : mget x k with
 | none=>rfl
 | some z=>rw [hm] at h; cases h
theorem zDT {i n:Nat}{k:Ty}{v:OT} [DecidableEq k.den] {xs:List (k.den×v.den)}{hs hs':List (k.den×Nat)}{kx:k.den}(yx:v.den){js:List Nat}{av:AV}(hH:st.H.get i=.mpt k v xs hs) (hm:(kx,n)∈hs) (hg:mget xs kx=some yx) (hP:Pk st.H v yx [av] js) (hd:js.head?=some n)
  (hj:(zCn (i::js)&&(i::js).all fun j=>Nat.blt j st.n)=true) (hh:HolesTo kx hs hs') : Wk X st ⟨st.l,(i,.mpt k v xs hs')::killH js st.H,st.n⟩:=by
 have:=wk_close (X:=X) yx yx hH hm hg hP hd hj hh
 rwa [mset_same hg] at this
end
end Go.Ab
set_option maxRecDepth 100000
namespace Go.Ab
open Go.RowKit Go.Shelf Go.Proofs Go.Eng
abbrev _root_.Go.Value.i (z:Int) : Value:=.int .i64 z
abbrev AV.i (z:Int) : AV:=.int .i64 z
abbrev Ty.i : Ty:=.int .i64
abbrev Y1 : Ty:=.st (.pair .str .str)
abbrev Y2 : Ty:=.st (.pair (.int .i64) (.pair (.int .i64) (.pair (.int .i64) (.pair (.int .i64) (.pair (.slice Y1) .str)))))
abbrev Y3 : Ty:=.st (.pair Y1 (.pair .str (.pair (.int .i64) .bool)))
abbrev Y4 : Ty:=.st (.pair (.int .i64) (.slice Y3))
abbrev F70 : OT:=(.pair (.sl 67 (.dat Y4)) (.dat .i))
abbrev E70 : OT:=.pt 70 F70
abbrev F64 : OT:=(.pair (.mp .i (.mp Y1 (.dat (.raw ifN)))) (.pair (.dat .i) (.dat .i)))
abbrev E64 : OT:=.pt 64 F64
def faD : Nat→Nat→Option Nat
 | 26,0=>some 0
 | 26,1=>some 1
 | 26,2=>some 2
 | 26,3=>some 3
 | 26,4=>some 4
 | 26,5=>some 5
 | 34,0=>some 0
 | 34,1=>some 1
 | 36,0=>some 0
 | 36,1=>some 2
 | 36,2=>some 3
 | 36,3=>some 4
 | 64,0=>some 0
 | 64,1=>some 1
 | 64,2=>some 2
 | 67,0=>some 0
 | 67,1=>some 1
 | 70,0=>some 0
 | 70,1=>some 1
 | _,_=>none
theorem faT {T f off:Nat}(h:faD T f=some off) : zCv Tryz.prog T f off:=by
 unfold faD at h
 split at h <;> first | (cases h; exact fun b o w=>by kernel_rfl) | cases h
def tsD : Nat→Option (Bool×Nat)
 | 3=>some (false,1)
 | 4=>some (false,1)
 | 9=>some (false,1)
 | 23=>some (false,1)
 | 26=>some (true,6)
 | 28=>some (false,1)
 | 34=>some (true,2)
 | 36=>some (true,5)
 | 38=>some (true,2)
 | 61=>some (false,1)
 | 62=>some (false,1)
 | 65=>some (false,1)
 | 67=>some (true,2)
 | 68=>some (false,1)
 | 114=>some (false,1)
 | 115=>some (false,1)
 | _=>none
theorem tsT {T n:Nat}{b:Bool}(h:tsD T=some (b,n)) : TyS Tryz.prog T b n:=by
 unfold tsD at h
 split at h <;> first | (cases h; exact ⟨fun w=>by kernel_rfl,fun w=>by kernel_rfl⟩) | cases h
def szD : Nat→Option (Nat)
 | 3=>some 1
 | 4=>some 1
 | 9=>some 1
 | 26=>some 6
 | 34=>some 2
 | 36=>some 5
 | 38=>some 2
 | 65=>some 1
 | 67=>some 2
 | 68=>some 1
 | 114=>some 1
 | 115=>some 1
 | _=>none
theorem szT {T:Nat}{v:Nat}(h:szD T=some v) : Sz Tryz.prog T v:=by
 unfold szD at h
 split at h <;> first | (cases h; exact fun w=>by kernel_rfl) | cases h
def undD : Nat→Option (TypeDesc)
 | 9=>some .string
 | 22=>some (.slice 26)
 | 23=>some (.slice 34)
 | 28=>some (.pointer 64)
 | 47=>some (.slice 3)
 | 49=>some (.slice 9)
 | 61=>some (.map 34 84)
 | 62=>some (.map 3 61)
 | 65=>some (.slice 36)
 | 68=>some (.slice 67)
 | 86=>some (.int .i64)
 | 91=>some .string
 | 108=>some (.pointer 67)
 | 114=>some (.map 3 4)
 | 121=>some (.pointer 9)
 | 174=>some (.array 2 9)
 | _=>none
theorem undT {T:Nat}{v:TypeDesc}(h:undD T=some v) : Und Tryz.prog T v:=by
 unfold undD at h
 split at h <;> first | (cases h; exact by unfold Und; kernel_rfl) | cases h
def zeroD : Nat→Option (Value)
 | 3=>some (.int .i64 0)
 | 26=>some (.agg #[.int .i64 0,.int .i64 0,.int .i64 0,.int .i64 0,.slice none 0 0,.string ByteArray.empty])
 | 34=>some (.agg #[.string ByteArray.empty,.string ByteArray.empty])
 | 36=>some (.agg #[.string ByteArray.empty,.string ByteArray.empty,.string ByteArray.empty,.int .i64 0,.bool false])
 | 38=>some (.agg #[.int .i64 0,.int .i64 0])
 | 61=>some (.map none)
 | 64=>some (.agg #[.map none,.int .i64 0,.int .i64 0])
 | 65=>some (.slice none 0 0)
 | 67=>some (.agg #[.int .i64 0,.slice none 0 0])
 | 70=>some (.agg #[.slice none 0 0,.int .i64 0])
 | 86=>some (.int .i64 0)
 | 91=>some (.string ByteArray.empty)
 | 114=>some (.map none)
 | 115=>some (.nilFunc)
 | 149=>some (.agg #[.pointer none,.slice none 0 0])
 | 174=>some (.agg #[.string ByteArray.empty,.string ByteArray.empty])
 | _=>none
theorem zeroT {T:Nat}{v:Value}(h:zeroD T=some v) : Eng.Zero Tryz.prog T v:=by
 unfold zeroD at h
 split at h <;> first | (cases h; exact fun w=>by kernel_rfl) | cases h
theorem faX (T f:Nat){off:Nat}(h:faD T f=some off) : zCv Tryz.prog T f off:=faT h
theorem tsX (T:Nat){n:Nat}{b:Bool}(h:tsD T=some (b,n)) : TyS Tryz.prog T b n:=tsT h
theorem szX (T:Nat){v:Nat}(h:szD T=some v) : Sz Tryz.prog T v:=szT h
theorem undX (T:Nat){v:TypeDesc}(h:undD T=some v) : Und Tryz.prog T v:=undT h
theorem zDB (T:Nat){v:Value}(h:zeroD T=some v) : Eng.Zero Tryz.prog T v:=zeroT h
end Go.Ab
namespace Go.Ab
open Go.RowKit Go.Shelf Go.Proofs Go.Eng
def wsA (l:AFr) (H:AH) (σ:List Nat) (d:Nat) (l':AFr) : List (Option AV):=l'.map fun p=>(l.look p.1).map (zBI H σ d)
theorem wS {l:AFr}{H:AH}{σ:List Nat}{d:Nat} : ∀ {l':AFr}(h:wsA l H σ d l'=l'.map (fun p=>some p.2):=by rfl),wkS l H σ d l':=by
 intro l'
 induction l' with
 | nil=>intro _; trivial
 | cons p r ih =>
  intro h
  simp only [wsA,List.map_cons,List.cons.injEq] at h
  exact ⟨⟨_,h.1,cv0⟩,ih h.2⟩
def woA (H:AH) (σ:List Nat) (d:Nat) (H':AH) : Nat→List Nat→List (AO×AO)
 | _,[]=>[]
 | j,i::r=>(H'.get j,coeO H σ d (H.get i))::woA H σ d H' (j+1) r
theorem wO {H:AH}{σ0:List Nat}{d:Nat}{H':AH} : ∀ {σ:List Nat}{j:Nat}(h:(woA H σ0 d H' j σ).map (·.1)=(woA H σ0 d H' j σ).map (·.2):=by rfl),wkO H σ0 d H' j σ:=by
 intro σ
 induction σ with
 | nil=>intro j _; trivial
 | cons a r ih =>
  intro j h
  simp only [woA,List.map_cons,List.cons.injEq] at h
  exact ⟨.inl h.1,ih h.2⟩
theorem cnd {A B C p q u v:Prop}(k1:p→u→B) (k2:q→v→C) (h:(p→u→B)→(q→v→C)→A:=by
 intro k1 k2
 exact zAO rfl (fun hc=>k1 hc (zD1 hc hr)) (fun hc=>k2 hc (zD2 hc hr))) : A:=h k1 k2
section
variable {P:Program} {N:Ev} {X:Cx} {Q:zBa} {st:AS}
variable {d:Nat} {T U T':TypeId} {pos:String} {aft:Array Edge} {g:Option (Nat×Bool)} {x y:Operand} {k ky:IntKind} {a b:Int}
theorem V {ops:Array Oper}{rest:List Oper}{op:Op}{v:AV}(h:AOpV P N X ⟨some d,op,T,pos,aft,none⟩ v st) (k:AWL P N X ops Q rest (st.put d v)) : AWL P N X ops Q (⟨some d,op,T,pos,aft,none⟩::rest) st:=zDY h k
def AOpS (P:Program) (N:Ev) (X:Cx) (o:Oper) (st st':AS) : Prop:=∀ K : AS→Prop,K st'→AOp P N X o K st
theorem O {ops:Array Oper}{rest:List Oper}{d:Option Nat}{op:Op}{st':AS}(h:AOpS P N X ⟨d,op,T,pos,aft,none⟩ st st') (k:AWL P N X ops Q rest st') : AWL P N X ops Q (⟨d,op,T,pos,aft,none⟩::rest) st:=zAK (h _ k)
abbrev sq:=@zDO
abbrev rg:=@zDK
abbrev nl:=@zAJ
abbrev sk:=@zAv
abbrev bl:=@zDv
abbrev an:=@zAZ
abbrev bn:=@zAS
abbrev bh:=@zAl
abbrev ar:=@zAC
abbrev br:=@zAE
abbrev cr:=@zAw
theorem vm {v:AV}(hx:aev st.l x=some v:=by exact rfl) (hN:Nat.blt d N.n=true:=by exact rfl) : AOpV P N X ⟨some d,.move x,T,pos,aft,g⟩ v st:=zAg hx hN
theorem wm {pg:Prop}{v:AV}(hx:aev st.l x=some v:=by exact rfl) (hN:Nat.blt d N.n=true:=by exact rfl) : pg→AOpV P N X ⟨some d,.move x,T,pos,aft,g⟩ v st:=fun _=>zAg hx hN
theorem va {v:AV}(hx:aev st.l x=some v:=by exact rfl) (hN:Nat.blt d N.n=true:=by exact rfl) : AOpV P N X ⟨some d,.assign x,T,pos,aft,g⟩ v st:=zDJ hx hN
theorem wa {pg:Prop}{v:AV}(hx:aev st.l x=some v:=by exact rfl) (hN:Nat.blt d N.n=true:=by exact rfl) : pg→AOpV P N X ⟨some d,.assign x,T,pos,aft,g⟩ v st:=fun _=>zDJ hx hN
theorem vls (hx:aev st.l x=some (.int k a):=by exact rfl) (hy:aev st.l y=some (.int k b):=by exact rfl) (hN:Nat.blt d N.n=true:=by exact rfl) : AOpV P N X ⟨some d,.binOp .lss T x y T',U,pos,aft,g⟩ (.bool (decide (a < b))) st:=av_lss hx hy hN
theorem wls {pg:Prop}(hx:aev st.l x=some (.int k a):=by exact rfl) (hy:aev st.l y=some (.int k b):=by exact rfl) (hN:Nat.blt d N.n=true:=by exact rfl) : pg→AOpV P N X ⟨some d,.binOp .lss T x y T',U,pos,aft,g⟩ (.bool (decide (a < b))) st:=fun _=>av_lss hx hy hN
theorem vad (hx:aev st.l x=some (.int k a):=by exact rfl) (hy:aev st.l y=some (.int k b):=by exact rfl) (hN:Nat.blt d N.n=true:=by exact rfl) : AOpV P N X ⟨some d,.binOp .add T x y T',U,pos,aft,g⟩ (.int k (k.wrap (a+b))) st:=zD3 hx hy hN
theorem wad {pg:Prop}(hx:aev st.l x=some (.int k a):=by exact rfl) (hy:aev st.l y=some (.int k b):=by exact rfl) (hN:Nat.blt d N.n=true:=by exact rfl) : pg→AOpV P N X ⟨some d,.binOp .add T x y T',U,pos,aft,g⟩ (.int k (k.wrap (a+b))) st:=fun _=>zD3 hx hy hN
theorem veq (hx:aev st.l x=some (.int k a):=by exact rfl) (hy:aev st.l y=some (.int k b):=by exact rfl) (hN:Nat.blt d N.n=true:=by exact rfl) : AOpV P N X ⟨some d,.binOp .eql T x y T',U,pos,aft,g⟩ (.bool (decide (a=b))) st:=av_eql hx hy hN
theorem weq {pg:Prop}(hx:aev st.l x=some (.int k a):=by exact rfl) (hy:aev st.l y=some (.int k b):=by exact rfl) (hN:Nat.blt d N.n=true:=by exact rfl) : pg→AOpV P N X ⟨some d,.binOp .eql T x y T',U,pos,aft,g⟩ (.bool (decide (a=b))) st:=fun _=>av_eql hx hy hN
theorem vne (hx:aev st.l x=some (.int k a):=by exact rfl) (hy:aev st.l y=some (.int k b):=by exact rfl) (hN:Nat.blt d N.n=true:=by exact rfl) : AOpV P N X ⟨some d,.binOp .neq T x y T',U,pos,aft,g⟩ (.bool (!decide (a=b))) st:=zD0 hx hy hN
theorem wne {pg:Prop}(hx:aev st.l x=some (.int k a):=by exact rfl) (hy:aev st.l y=some (.int k b):=by exact rfl) (hN:Nat.blt d N.n=true:=by exact rfl) : pg→AOpV P N X ⟨some d,.binOp .neq T x y T',U,pos,aft,g⟩ (.bool (!decide (a=b))) st:=fun _=>zD0 hx hy hN
theorem vno {c:Bool}(hx:aev st.l x=some (.bool c):=by exact rfl) (hN:Nat.blt d N.n=true:=by exact rfl) : AOpV P N X ⟨some d,.unOp .not T x,U,pos,aft,g⟩ (.bool (!c)) st:=zDx hx hN
theorem wno {pg:Prop}{c:Bool}(hx:aev st.l x=some (.bool c):=by exact rfl) (hN:Nat.blt d N.n=true:=by exact rfl) : pg→AOpV P N X ⟨some d,.unOp .not T x,U,pos,aft,g⟩ (.bool (!c)) st:=fun _=>zDx hx hN
theorem vgt (hx:aev st.l x=some (.int k a):=by exact rfl) (hy:aev st.l y=some (.int k b):=by exact rfl) (hN:Nat.blt d N.n=true:=by exact rfl) : AOpV P N X ⟨some d,.binOp .gtr T x y T',U,pos,aft,g⟩ (.bool (decide (b < a))) st:=av_gtr hx hy hN
theorem wgt {pg:Prop}(hx:aev st.l x=some (.int k a):=by exact rfl) (hy:aev st.l y=some (.int k b):=by exact rfl) (hN:Nat.blt d N.n=true:=by exact rfl) : pg→AOpV P N X ⟨some d,.binOp .gtr T x y T',U,pos,aft,g⟩ (.bool (decide (b < a))) st:=fun _=>av_gtr hx hy hN
theorem vge (hx:aev st.l x=some (.int k a):=by exact rfl) (hy:aev st.l y=some (.int k b):=by exact rfl) (hN:Nat.blt d N.n=true:=by exact rfl) : AOpV P N X ⟨some d,.binOp .geq T x y T',U,pos,aft,g⟩ (.bool (decide (b≤a))) st:=av_geq hx hy hN
theorem wge {pg:Prop}(hx:aev st.l x=some (.int k a):=by exact rfl) (hy:aev st.l y=some (.int k b):=by exact rfl) (hN:Nat.blt d N.n=true:=by exact rfl) : pg→AOpV P N X ⟨some d,.binOp .geq T x y T',U,pos,aft,g⟩ (.bool (decide (b≤a))) st:=fun _=>av_geq hx hy hN
theorem vle (hx:aev st.l x=some (.int k a):=by exact rfl) (hy:aev st.l y=some (.int k b):=by exact rfl) (hN:Nat.blt d N.n=true:=by exact rfl) : AOpV P N X ⟨some d,.binOp .leq T x y T',U,pos,aft,g⟩ (.bool (decide (a≤b))) st:=av_leq hx hy hN
theorem wle {pg:Prop}(hx:aev st.l x=some (.int k a):=by exact rfl) (hy:aev st.l y=some (.int k b):=by exact rfl) (hN:Nat.blt d N.n=true:=by exact rfl) : pg→AOpV P N X ⟨some d,.binOp .leq T x y T',U,pos,aft,g⟩ (.bool (decide (a≤b))) st:=fun _=>av_leq hx hy hN
theorem vsu (hx:aev st.l x=some (.int k a):=by exact rfl) (hy:aev st.l y=some (.int k b):=by exact rfl) (hN:Nat.blt d N.n=true:=by exact rfl) : AOpV P N X ⟨some d,.binOp .sub T x y T',U,pos,aft,g⟩ (.int k (k.wrap (a - b))) st:=zDz hx hy hN
theorem wsu {pg:Prop}(hx:aev st.l x=some (.int k a):=by exact rfl) (hy:aev st.l y=some (.int k b):=by exact rfl) (hN:Nat.blt d N.n=true:=by exact rfl) : pg→AOpV P N X ⟨some d,.binOp .sub T x y T',U,pos,aft,g⟩ (.int k (k.wrap (a - b))) st:=fun _=>zDz hx hy hN
theorem vnp {i o:Nat}(hx:aev st.l x=some (.ptr i o):=by exact rfl) (hN:Nat.blt d N.n=true:=by exact rfl) : AOpV P N X ⟨some d,.nilCheck x,U,pos,aft,g⟩ (.ptr i o) st:=zAm hx hN
theorem wnp {pg:Prop}{i o:Nat}(hx:aev st.l x=some (.ptr i o):=by exact rfl) (hN:Nat.blt d N.n=true:=by exact rfl) : pg→AOpV P N X ⟨some d,.nilCheck x,U,pos,aft,g⟩ (.ptr i o) st:=fun _=>zAm hx hN
theorem vnr {cs:List AV}(hx:aev st.l x=some (.rp cs):=by exact rfl) (hN:Nat.blt d N.n=true:=by exact rfl) : AOpV P N X ⟨some d,.nilCheck x,U,pos,aft,g⟩ (.rp cs) st:=zDy hx hN
theorem wnr {pg:Prop}{cs:List AV}(hx:aev st.l x=some (.rp cs):=by exact rfl) (hN:Nat.blt d N.n=true:=by exact rfl) : pg→AOpV P N X ⟨some d,.nilCheck x,U,pos,aft,g⟩ (.rp cs) st:=fun _=>zDy hx hN
theorem vx {i:Nat}{vs:List AV}{v:AV}(hx:aev st.l x=some (.tup vs):=by exact rfl) (hv:vs[i]?=some v:=by exact rfl) (hN:Nat.blt d N.n=true:=by exact rfl) : AOpV P N X ⟨some d,.extract x i,U,pos,aft,g⟩ v st:=zDA hx hv hN
theorem wx {pg:Prop}{i:Nat}{vs:List AV}{v:AV}(hx:aev st.l x=some (.tup vs):=by exact rfl) (hv:vs[i]?=some v:=by exact rfl) (hN:Nat.blt d N.n=true:=by exact rfl) : pg→AOpV P N X ⟨some d,.extract x i,U,pos,aft,g⟩ v st:=fun _=>zDA hx hv hN
theorem vns {s t:Str}(hx:aev st.l x=some (.str s):=by exact rfl) (hy:aev st.l y=some (.str t):=by exact rfl) (hN:Nat.blt d N.n=true:=by exact rfl) : AOpV P N X ⟨some d,.binOp .neq T x y T',U,pos,aft,g⟩ (.bool (!decide (s=t))) st:=av_neqs hx hy hN
theorem wns {pg:Prop}{s t:Str}(hx:aev st.l x=some (.str s):=by exact rfl) (hy:aev st.l y=some (.str t):=by exact rfl) (hN:Nat.blt d N.n=true:=by exact rfl) : pg→AOpV P N X ⟨some d,.binOp .neq T x y T',U,pos,aft,g⟩ (.bool (!decide (s=t))) st:=fun _=>av_neqs hx hy hN
theorem vfp {f off i o o':Nat}(hf:zCv P T f off:=by exact faT rfl) (hx:aev st.l x=some (.ptr i o):=by exact rfl) (ho:o+off=o':=by exact rfl) (hN:Nat.blt d N.n=true:=by exact rfl) : AOpV P N X ⟨some d,.fieldAddr T x f,U,pos,aft,g⟩ (.ptr i o') st:=zAc hf hx ho hN
theorem wfp {pg:Prop}{f off i o o':Nat}(hf:zCv P T f off:=by exact faT rfl) (hx:aev st.l x=some (.ptr i o):=by exact rfl) (ho:o+off=o':=by exact rfl) (hN:Nat.blt d N.n=true:=by exact rfl) : pg→AOpV P N X ⟨some d,.fieldAddr T x f,U,pos,aft,g⟩ (.ptr i o') st:=fun _=>zAc hf hx ho hN
theorem vfr {f off:Nat}{cs ds:List AV}(hf:zCv P T f off:=by exact faT rfl) (hx:aev st.l x=some (.rp cs):=by exact rfl) (hd:cs.drop off=ds:=by exact rfl) (hN:Nat.blt d N.n=true:=by exact rfl) : AOpV P N X ⟨some d,.fieldAddr T x f,U,pos,aft,g⟩ (.rp ds) st:=zDE hf hx hd hN
theorem wfr {pg:Prop}{f off:Nat}{cs ds:List AV}(hf:zCv P T f off:=by exact faT rfl) (hx:aev st.l x=some (.rp cs):=by exact rfl) (hd:cs.drop off=ds:=by exact rfl) (hN:Nat.blt d N.n=true:=by exact rfl) : pg→AOpV P N X ⟨some d,.fieldAddr T x f,U,pos,aft,g⟩ (.rp ds) st:=fun _=>zDE hf hx hd hN
theorem vlp {i o:Nat}{cs:List AV}{v:AV}{r:List AV}(hT:TyS P T false 1:=by exact tsT rfl) (hx:aev st.l x=some (.ptr i o):=by exact rfl) (hH:st.H.get i=.var T' cs:=by exact rfl) (hd:cs.drop o=v::r:=by exact rfl) (hN:Nat.blt d N.n=true:=by exact rfl) : AOpV P N X ⟨some d,.load T x,U,pos,aft,g⟩ v st:=zAU hT hx hH hd hN
theorem wlp {pg:Prop}{i o:Nat}{cs:List AV}{v:AV}{r:List AV}(hT:TyS P T false 1:=by exact tsT rfl) (hx:aev st.l x=some (.ptr i o):=by exact rfl) (hH:st.H.get i=.var T' cs:=by exact rfl) (hd:cs.drop o=v::r:=by exact rfl) (hN:Nat.blt d N.n=true:=by exact rfl) : pg→AOpV P N X ⟨some d,.load T x,U,pos,aft,g⟩ v st:=fun _=>zAU hT hx hH hd hN
theorem vlr {v:AV}{r:List AV}(hT:TyS P T false 1:=by exact tsT rfl) (hx:aev st.l x=some (.rp (v::r)):=by exact rfl) (hN:Nat.blt d N.n=true:=by exact rfl) : AOpV P N X ⟨some d,.load T x,U,pos,aft,g⟩ v st:=zDC hT hx hN
theorem wlr {pg:Prop}{v:AV}{r:List AV}(hT:TyS P T false 1:=by exact tsT rfl) (hx:aev st.l x=some (.rp (v::r)):=by exact rfl) (hN:Nat.blt d N.n=true:=by exact rfl) : pg→AOpV P N X ⟨some d,.load T x,U,pos,aft,g⟩ v st:=fun _=>zDC hT hx hN
theorem vlR {n:Nat}{cs ds:List AV}(hT:TyS P T true n:=by exact tsT rfl) (hx:aev st.l x=some (.rp cs):=by exact rfl) (hd:cs.take n=ds:=by exact rfl) (hl:Nat.beq ds.length n=true:=by exact rfl) (hN:Nat.blt d N.n=true:=by exact rfl) : AOpV P N X ⟨some d,.load T x,U,pos,aft,g⟩ (.agg ds) st:=zDw hT hx hd hl hN
theorem wlR {pg:Prop}{n:Nat}{cs ds:List AV}(hT:TyS P T true n:=by exact tsT rfl) (hx:aev st.l x=some (.rp cs):=by exact rfl) (hd:cs.take n=ds:=by exact rfl) (hl:Nat.beq ds.length n=true:=by exact rfl) (hN:Nat.blt d N.n=true:=by exact rfl) : pg→AOpV P N X ⟨some d,.load T x,U,pos,aft,g⟩ (.agg ds) st:=fun _=>zDw hT hx hd hl hN
theorem vlP {n i o:Nat}{cs ds:List AV}(hT:TyS P T true n:=by exact tsT rfl) (hx:aev st.l x=some (.ptr i o):=by exact rfl) (hH:st.H.get i=.var T' cs:=by exact rfl) (hd:(cs.drop o).take n=ds:=by exact rfl) (hl:Nat.beq ds.length n=true:=by exact rfl) (hN:Nat.blt d N.n=true:=by exact rfl) : AOpV P N X ⟨some d,.load T x,U,pos,aft,g⟩ (.agg ds) st:=zDG hT hx hH hd hl hN
theorem wlP {pg:Prop}{n i o:Nat}{cs ds:List AV}(hT:TyS P T true n:=by exact tsT rfl) (hx:aev st.l x=some (.ptr i o):=by exact rfl) (hH:st.H.get i=.var T' cs:=by exact rfl) (hd:(cs.drop o).take n=ds:=by exact rfl) (hl:Nat.beq ds.length n=true:=by exact rfl) (hN:Nat.blt d N.n=true:=by exact rfl) : pg→AOpV P N X ⟨some d,.load T x,U,pos,aft,g⟩ (.agg ds) st:=fun _=>zDG hT hx hH hd hl hN
theorem vnt {s:Str}{ts:Array TypeId}{cl:Array Operand}(hc:cl=#[x]:=by exact rfl) (ht:ts=#[T]:=by exact rfl) (hU:Und P T .string:=by exact undT rfl) (hx:aev st.l x=some (.str s):=by exact rfl) (hN:Nat.blt d N.n=true:=by exact rfl) : AOpV P N X ⟨some d,.call ⟨.builtin .len,cl,ts⟩,U,pos,aft,g⟩ (.int .i64 (s.length : Int)) st:=av_len_str hc ht hU hx hN
theorem wnt {pg:Prop}{s:Str}{ts:Array TypeId}{cl:Array Operand}(hc:cl=#[x]:=by exact rfl) (ht:ts=#[T]:=by exact rfl) (hU:Und P T .string:=by exact undT rfl) (hx:aev st.l x=some (.str s):=by exact rfl) (hN:Nat.blt d N.n=true:=by exact rfl) : pg→AOpV P N X ⟨some d,.call ⟨.builtin .len,cl,ts⟩,U,pos,aft,g⟩ (.int .i64 (s.length : Int)) st:=fun _=>av_len_str hc ht hU hx hN
theorem vnl {t:Ty}{xs:List t.den}{e:Nat}{ts:Array TypeId}{cl:Array Operand}(hc:cl=#[x]:=by exact rfl) (ht:ts=#[T]:=by exact rfl) (hU:Und P T (.slice e):=by exact undT rfl) (hx:aev st.l x=some (.sl t xs):=by exact rfl) (hN:Nat.blt d N.n=true:=by exact rfl) : AOpV P N X ⟨some d,.call ⟨.builtin .len,cl,ts⟩,U,pos,aft,g⟩ (.int .i64 (xs.length : Int)) st:=zA0 hc ht hU hx hN
theorem wnl {pg:Prop}{t:Ty}{xs:List t.den}{e:Nat}{ts:Array TypeId}{cl:Array Operand}(hc:cl=#[x]:=by exact rfl) (ht:ts=#[T]:=by exact rfl) (hU:Und P T (.slice e):=by exact undT rfl) (hx:aev st.l x=some (.sl t xs):=by exact rfl) (hN:Nat.blt d N.n=true:=by exact rfl) : pg→AOpV P N X ⟨some d,.call ⟨.builtin .len,cl,ts⟩,U,pos,aft,g⟩ (.int .i64 (xs.length : Int)) st:=fun _=>zA0 hc ht hU hx hN
theorem vnL {i:Nat}{t:Ty}{xs:List t.den}{e E:Nat}{ts:Array TypeId}{cl:Array Operand}(hc:cl=#[x]:=by exact rfl) (ht:ts=#[T]:=by exact rfl) (hU:Und P T (.slice e):=by exact undT rfl) (hx:aev st.l x=some (.osl i):=by exact rfl) (hH:st.H.get i=.sl E t xs:=by exact rfl) (hN:Nat.blt d N.n=true:=by exact rfl) : AOpV P N X ⟨some d,.call ⟨.builtin .len,cl,ts⟩,U,pos,aft,g⟩ (.int .i64 (xs.length : Int)) st:=zC7 hc ht hU hx hH hN
theorem wnL {pg:Prop}{i:Nat}{t:Ty}{xs:List t.den}{e E:Nat}{ts:Array TypeId}{cl:Array Operand}(hc:cl=#[x]:=by exact rfl) (ht:ts=#[T]:=by exact rfl) (hU:Und P T (.slice e):=by exact undT rfl) (hx:aev st.l x=some (.osl i):=by exact rfl) (hH:st.H.get i=.sl E t xs:=by exact rfl) (hN:Nat.blt d N.n=true:=by exact rfl) : pg→AOpV P N X ⟨some d,.call ⟨.builtin .len,cl,ts⟩,U,pos,aft,g⟩ (.int .i64 (xs.length : Int)) st:=fun _=>zC7 hc ht hU hx hH hN
theorem os {i o n:Nat}{cs ds cs':List AV}{av:AV}(hT:Sz P T n:=by exact szT rfl) (hx:aev st.l x=some (.ptr i o):=by exact rfl) (hy:aev st.l y=some av:=by exact rfl) (hH:st.H.get i=.var T' cs:=by exact rfl) (hd:zBd av=some ds:=by exact rfl) (hn:Nat.beq ds.length n=true:=by exact rfl) (hle:Nat.ble (o+n) cs.length=true:=by exact rfl) (hcs:over cs o ds=cs':=by exact rfl) : AOpS P N X ⟨none,.store T x y,U,pos,aft,g⟩ st (st.upd i (.var T' cs')):=fun K kk=>zDI hT hx hy hH hd hn hle hcs kk
theorem oa {v:Value}{cs:List AV}(hZ:Zero P T v:=by exact zeroT rfl) (hcs:zBd (ofV v)=some cs:=by exact rfl) (hN:Nat.blt d N.n=true:=by exact rfl) : AOpS P N X ⟨some d,.alloc T,U,pos,aft,g⟩ st (st.new d (.ptr st.n 0) (.var T cs)):=fun K kk=>zD hZ hcs kk hN
theorem ob {av:AV}{cs:List AV}(hx:aev st.l x=some av:=by exact rfl) (hcs:zBd av=some cs:=by exact rfl) (hN:Nat.blt d N.n=true:=by exact rfl) : AOpS P N X ⟨some d,.box T x,U,pos,aft,g⟩ st (st.new d (.ptr st.n 0) (.var T cs)):=fun K kk=>aop_box hx hcs kk hN
end
section
variable {P:Program} {N:Ev} {X:Cx} {Q:zBa} {st:AS}
theorem zBr {ops:List Oper}{Ts:List TT}{lA:AFr}{H:AH}{n:Nat}{d U:Nat}{pos:String}{aft:Array Edge}{g:Option (Nat×Bool)}{c x y:Operand}{T:TT}{js js':List Nat}{jq:Nat}{p q:Bool}(hg:guardOk ops Ts ⟨some d,.pick c x y,U,pos,aft,g⟩ T js:=by exact rfl) (hjs:js=jq::js':=by exact rfl) (hnd:zCn (js.map (zBm ops))=true:=by exact rfl) (hT2:T.2=.bool (p||q):=by exact rfl) (hall:T.1=true→∀ j∈js',(zBL Ts j).1=true:=by exact fun hg=>zAD ⟨rfl,trivial⟩) (hc:aev (zBR ops Ts js' ((zBm ops jq,.any)::lA)) c=some (.bool p):=by exact rfl) (hq:zBL Ts jq=(T.1&&!p,.bool q):=by exact rfl) (hx:y=.tmp (zBm ops jq):=by exact rfl) (hy:x=.const (.bool true):=by exact rfl) (hN:Nat.blt d N.n=true:=by exact rfl) : AOb P N X ops Ts lA H n ⟨some d,.pick c x y,U,pos,aft,g⟩ T js:=zBC (b:=false) hg hjs hnd hall hT2 hc hq hx hy hN
theorem zBe {ops:List Oper}{Ts:List TT}{lA:AFr}{H:AH}{n:Nat}{d U:Nat}{pos:String}{aft:Array Edge}{g:Option (Nat×Bool)}{c x y:Operand}{T:TT}{js js':List Nat}{jq:Nat}{p q:Bool}(hg:guardOk ops Ts ⟨some d,.pick c x y,U,pos,aft,g⟩ T js:=by exact rfl) (hjs:js=jq::js':=by exact rfl) (hnd:zCn (js.map (zBm ops))=true:=by exact rfl) (hT2:T.2=.bool (p&&q):=by exact rfl) (hall:T.1=true→∀ j∈js',(zBL Ts j).1=true:=by exact fun hg=>zAD ⟨rfl,trivial⟩) (hc:aev (zBR ops Ts js' ((zBm ops jq,.any)::lA)) c=some (.bool p):=by exact rfl) (hq:zBL Ts jq=(T.1&&p,.bool q):=by exact rfl) (hx:x=.tmp (zBm ops jq):=by exact rfl) (hy:y=.const (.bool false):=by exact rfl) (hN:Nat.blt d N.n=true:=by exact rfl) : AOb P N X ops Ts lA H n ⟨some d,.pick c x y,U,pos,aft,g⟩ T js:=zBC (b:=true) hg hjs hnd hall hT2 hc hq hx hy hN
theorem pkA {H:AH}{a b:OT}{x:(OT.pair a b).den}{cs:List AV}{js:List Nat}(h1:Pk H a x.1 (cs.take a.cells) []) (h2:Pk H b x.2 (cs.drop a.cells) js) : Pk H (.pair a b) x cs js:=⟨_,_,[],js,(List.take_append_drop _ cs).symm,rfl,h1,h2⟩
theorem pkB {H:AH}{a b:OT}{x:(OT.pair a b).den}{cs:List AV}{j:Nat}{js:List Nat}(h1:Pk H a x.1 (cs.take a.cells) [j]) (h2:Pk H b x.2 (cs.drop a.cells) js) : Pk H (.pair a b) x cs (j::js):=⟨_,_,[j],js,(List.take_append_drop _ cs).symm,rfl,h1,h2⟩
theorem pk {i:Nat}{T:TypeId}{e:OT}{cs:List AV}{js:List Nat}(x:e.den) (hH:st.H.get i=.var T cs:=by exact rfl) (hP:Pk st.H e x cs js:=by repeat' first | exact ⟨rfl,rfl,rfl⟩ | exact ⟨_,rfl,rfl,rfl⟩ | exact .inl ⟨_,rfl,rfl,rfl⟩ | exact .inr ⟨rfl,rfl,rfl⟩ | refine pkA (by first | exact ⟨rfl,rfl,rfl⟩ | exact .inr ⟨rfl,rfl,rfl⟩) ?_ | refine pkB (by first | exact ⟨_,rfl,rfl,rfl⟩ | exact .inl ⟨_,rfl,rfl,rfl⟩) ?_) (hj:(zCn (i::js)&&(i::js).all fun j=>Nat.blt j st.n)=true:=by exact rfl) :
  Wk X st ⟨st.l,(i,.tr (.pt T e) (some x))::killH js st.H,st.n⟩:=zAT x hH hP hj
theorem oB {ops:List Oper}{Ts:List TT}{lA:AFr}{H:AH}{n:Nat}{o:Oper}{T:TT}{js:List Nat}(h:T.1=true→AOpV P N X o T.2 ⟨zBR ops Ts js lA,H,n⟩) (hg:guardOk ops Ts o T js:=by first | exact rfl | exact ⟨rfl,rfl,rfl,_,rfl,rfl⟩) (hall:T.1=true→∀ j∈js,(zBL Ts j).1=true:=by exact fun hg=>zAD (by repeat (first | exact trivial | refine ⟨by first | exact rfl | exact hg | exact zBO hg,?_⟩))) : AOb P N X ops Ts lA H n o T js:=zAr hg hall h
end
end Go.Ab
namespace Go.Proofs
open Go.Shelf
def Tryz.laysJoin_ren : Go.Shelf.Ren:=⟨fun | 156=>73 | 165=>95 | 166=>96 | 169=>94 | 240=>118 | 241=>119 | 276=>152 | 277=>153 | n=>n,fun | 31=>49 | 9=>9 | 3=>3 | 4=>4 | 0=>0 | 20=>20 | 72=>149 | 76=>156 | 70=>146 | 37=>147 | 75=>152 | 127=>180 | 164=>205 | 5=>5 | 80=>155 | n=>n,fun | n=>n⟩
theorem Tryz.laysJoin : Go.Proofs.Lays.n156 Tryz.prog Tryz.laysJoin_ren:={
 mixed:=by kernel_rfl
 f156:=Tryz.func73.trans (congrArg some (by kernel_rfl))
 f165:=Tryz.func95.trans (congrArg some (by kernel_rfl))
 f166:=Tryz.func96.trans (congrArg some (by kernel_rfl))
 f169:=Tryz.func94.trans (congrArg some (by kernel_rfl))
 f240:=Tryz.func118.trans (congrArg some (by kernel_rfl))
 f241:=Tryz.func119.trans (congrArg some (by kernel_rfl))
 f276:=Tryz.func152.trans (congrArg some (by kernel_rfl))
 f277:=Tryz.func153.trans (congrArg some (by kernel_rfl))
 t0:=Tryz.underlying0
 a0:=Tryz.isAgg0
 z0:=Tryz.sizeOf0
 v0:=Tryz.zeroValue0
 t3:=Tryz.underlying3
 a3:=Tryz.isAgg3
 z3:=Tryz.sizeOf3
 v3:=Tryz.zeroValue3
 t4:=Tryz.underlying4
 a4:=Tryz.isAgg4
 z4:=Tryz.sizeOf4
 v4:=Tryz.zeroValue4
 t9:=Tryz.underlying9
 a9:=Tryz.isAgg9
 z9:=Tryz.sizeOf9
 v9:=Tryz.zeroValue9
 t20:=Tryz.underlying20
 a20:=Tryz.isAgg20
 z20:=Tryz.sizeOf20
 v20:=Tryz.zeroValue20
 t31:=Tryz.underlying49
 a31:=Tryz.isAgg49
 z31:=Tryz.sizeOf49
 v31:=Tryz.zeroValue49
 t37:=Tryz.underlying147
 a37:=Tryz.isAgg147
 z37:=Tryz.sizeOf147
 v37:=Tryz.zeroValue147
 t70:=Tryz.underlying146
 a70:=Tryz.isAgg146
 z70:=Tryz.sizeOf146
 v70:=Tryz.zeroValue146
 t72:=Tryz.underlying149
 a72:=Tryz.isAgg149
 z72:=Tryz.sizeOf149
 v72:=Tryz.zeroValue149
 t75:=Tryz.underlying152
 a75:=Tryz.isAgg152
 z75:=Tryz.sizeOf152
 v75:=Tryz.zeroValue152
 t76:=Tryz.underlying156
 a76:=Tryz.isAgg156
 z76:=Tryz.sizeOf156
 v76:=Tryz.zeroValue156
 t127:=Tryz.underlying180
 a127:=Tryz.isAgg180
 z127:=Tryz.sizeOf180
 v127:=Tryz.zeroValue180
 t164:=Tryz.underlying205
 a164:=Tryz.isAgg205
 z164:=Tryz.sizeOf205
 v164:=Tryz.zeroValue205 }
def Tryz.laysBS_ren : Go.Shelf.Ren:=⟨fun | 169=>94 | n=>n,fun | 70=>146 | 9=>9 | 0=>0 | 72=>149 | 37=>147 | 127=>180 | 3=>3 | 5=>5 | n=>n,fun | n=>n⟩
theorem Tryz.laysBS : Go.Proofs.Lays.n169 Tryz.prog Tryz.laysBS_ren:={
 mixed:=by kernel_rfl
 f169:=Tryz.func94.trans (congrArg some (by kernel_rfl))
 t0:=Tryz.underlying0
 a0:=Tryz.isAgg0
 z0:=Tryz.sizeOf0
 v0:=Tryz.zeroValue0
 t3:=Tryz.underlying3
 a3:=Tryz.isAgg3
 z3:=Tryz.sizeOf3
 v3:=Tryz.zeroValue3
 t9:=Tryz.underlying9
 a9:=Tryz.isAgg9
 z9:=Tryz.sizeOf9
 v9:=Tryz.zeroValue9
 t37:=Tryz.underlying147
 a37:=Tryz.isAgg147
 z37:=Tryz.sizeOf147
 v37:=Tryz.zeroValue147
 t70:=Tryz.underlying146
 a70:=Tryz.isAgg146
 z70:=Tryz.sizeOf146
 v70:=Tryz.zeroValue146
 t72:=Tryz.underlying149
 a72:=Tryz.isAgg149
 z72:=Tryz.sizeOf149
 v72:=Tryz.zeroValue149
 t127:=Tryz.underlying180
 a127:=Tryz.isAgg180
 z127:=Tryz.sizeOf180
 v127:=Tryz.zeroValue180 }
def Tryz.laysCmp_ren : Go.Shelf.Ren:=⟨fun | 106=>50 | 213=>76 | 265=>107 | n=>n,fun | 9=>9 | 3=>3 | n=>n,fun | n=>n⟩
theorem Tryz.laysCmp : Go.Proofs.Lays.n106 Tryz.prog Tryz.laysCmp_ren:={
 mixed:=by kernel_rfl
 f106:=Tryz.func50.trans (congrArg some (by kernel_rfl))
 f213:=Tryz.func76.trans (congrArg some (by kernel_rfl))
 f265:=Tryz.func107.trans (congrArg some (by kernel_rfl))
 t3:=Tryz.underlying3
 a3:=Tryz.isAgg3
 z3:=Tryz.sizeOf3
 v3:=Tryz.zeroValue3
 t9:=Tryz.underlying9
 a9:=Tryz.isAgg9
 z9:=Tryz.sizeOf9
 v9:=Tryz.zeroValue9 }
def Tryz.laysCF_ren : Go.Shelf.Ren:=⟨fun | 17=>113 | 15=>143 | 20=>163 | n=>n,fun | 9=>9 | 23=>176 | 4=>4 | 3=>3 | 0=>0 | 21=>21 | n=>n,fun | n=>n⟩
theorem Tryz.laysCF : Go.Proofs.LaysGw.n17 Tryz.prog Tryz.laysCF_ren:={
 mixed:=by kernel_rfl
 f15:=Tryz.func143.trans (congrArg some (by kernel_rfl))
 f17:=Tryz.func113.trans (congrArg some (by kernel_rfl))
 f20:=Tryz.func163.trans (congrArg some (by kernel_rfl))
 t0:=Tryz.underlying0
 a0:=Tryz.isAgg0
 z0:=Tryz.sizeOf0
 v0:=Tryz.zeroValue0
 i0:=by kernel_rfl
 t3:=Tryz.underlying3
 a3:=Tryz.isAgg3
 z3:=Tryz.sizeOf3
 v3:=Tryz.zeroValue3
 i3:=by kernel_rfl
 t4:=Tryz.underlying4
 a4:=Tryz.isAgg4
 z4:=Tryz.sizeOf4
 v4:=Tryz.zeroValue4
 i4:=by kernel_rfl
 t9:=Tryz.underlying9
 a9:=Tryz.isAgg9
 z9:=Tryz.sizeOf9
 v9:=Tryz.zeroValue9
 i9:=by kernel_rfl
 t21:=Tryz.underlying21
 a21:=Tryz.isAgg21
 z21:=Tryz.sizeOf21
 v21:=Tryz.zeroValue21
 i21:=by kernel_rfl
 t23:=Tryz.underlying176
 a23:=Tryz.isAgg176
 z23:=Tryz.sizeOf176
 v23:=Tryz.zeroValue176
 i23:=by kernel_rfl }
def Tryz.laysSort_ren : Go.Shelf.Ren:=⟨fun | 189=>80 | 125=>75 | 257=>111 | 128=>105 | 129=>106 | 294=>134 | 295=>135 | 296=>136 | 297=>137 | 298=>138 | 299=>139 | 216=>140 | 300=>141 | 301=>142 | 328=>159 | 329=>121 | 330=>122 | 331=>160 | 332=>161 | 215=>162 | 343=>168 | n=>n,fun | 28=>47 | 3=>3 | 46=>140 | 0=>0 | 51=>166 | 53=>168 | 4=>4 | 183=>160 | 182=>159 | 131=>101 | 5=>5 | 9=>9 | 218=>181 | 222=>185 | 228=>208 | 229=>209 | n=>n,fun | n=>n⟩
theorem Tryz.laysSort : Go.Proofs.Lays.n189 Tryz.prog Tryz.laysSort_ren:={
 mixed:=by kernel_rfl
 f125:=Tryz.func75.trans (congrArg some (by kernel_rfl))
 f128:=Tryz.func105.trans (congrArg some (by kernel_rfl))
 f129:=Tryz.func106.trans (congrArg some (by kernel_rfl))
 f189:=Tryz.func80.trans (congrArg some (by kernel_rfl))
 f215:=Tryz.func162.trans (congrArg some (by kernel_rfl))
 f216:=Tryz.func140.trans (congrArg some (by kernel_rfl))
 f257:=Tryz.func111.trans (congrArg some (by kernel_rfl))
 f294:=Tryz.func134.trans (congrArg some (by kernel_rfl))
 f295:=Tryz.func135.trans (congrArg some (by kernel_rfl))
 f296:=Tryz.func136.trans (congrArg some (by kernel_rfl))
 f297:=Tryz.func137.trans (congrArg some (by kernel_rfl))
 f298:=Tryz.func138.trans (congrArg some (by kernel_rfl))
 f299:=Tryz.func139.trans (congrArg some (by kernel_rfl))
 f300:=Tryz.func141.trans (congrArg some (by kernel_rfl))
 f301:=Tryz.func142.trans (congrArg some (by kernel_rfl))
 f328:=Tryz.func159.trans (congrArg some (by kernel_rfl))
 f329:=Tryz.func121.trans (congrArg some (by kernel_rfl))
 f330:=Tryz.func122.trans (congrArg some (by kernel_rfl))
 f331:=Tryz.func160.trans (congrArg some (by kernel_rfl))
 f332:=Tryz.func161.trans (congrArg some (by kernel_rfl))
 f343:=Tryz.func168.trans (congrArg some (by kernel_rfl))
 t0:=Tryz.underlying0
 a0:=Tryz.isAgg0
 z0:=Tryz.sizeOf0
 v0:=Tryz.zeroValue0
 t3:=Tryz.underlying3
 a3:=Tryz.isAgg3
 z3:=Tryz.sizeOf3
 v3:=Tryz.zeroValue3
 t4:=Tryz.underlying4
 a4:=Tryz.isAgg4
 z4:=Tryz.sizeOf4
 v4:=Tryz.zeroValue4
 t5:=Tryz.underlying5
 a5:=Tryz.isAgg5
 z5:=Tryz.sizeOf5
 v5:=Tryz.zeroValue5
 t9:=Tryz.underlying9
 a9:=Tryz.isAgg9
 z9:=Tryz.sizeOf9
 v9:=Tryz.zeroValue9
 t28:=Tryz.underlying47
 a28:=Tryz.isAgg47
 z28:=Tryz.sizeOf47
 v28:=Tryz.zeroValue47
 t46:=Tryz.underlying140
 a46:=Tryz.isAgg140
 z46:=Tryz.sizeOf140
 v46:=Tryz.zeroValue140
 t51:=Tryz.underlying166
 a51:=Tryz.isAgg166
 z51:=Tryz.sizeOf166
 v51:=Tryz.zeroValue166
 t53:=Tryz.underlying168
 a53:=Tryz.isAgg168
 z53:=Tryz.sizeOf168
 v53:=Tryz.zeroValue168
 t131:=Tryz.underlying101
 a131:=Tryz.isAgg101
 z131:=Tryz.sizeOf101
 v131:=Tryz.zeroValue101
 t182:=Tryz.underlying159
 a182:=Tryz.isAgg159
 z182:=Tryz.sizeOf159
 v182:=Tryz.zeroValue159
 t183:=Tryz.underlying160
 a183:=Tryz.isAgg160
 z183:=Tryz.sizeOf160
 v183:=Tryz.zeroValue160
 t218:=Tryz.underlying181
 a218:=Tryz.isAgg181
 z218:=Tryz.sizeOf181
 v218:=Tryz.zeroValue181
 t222:=Tryz.underlying185
 a222:=Tryz.isAgg185
 z222:=Tryz.sizeOf185
 v222:=Tryz.zeroValue185
 t228:=Tryz.underlying208
 a228:=Tryz.isAgg208
 z228:=Tryz.sizeOf208
 v228:=Tryz.zeroValue208
 t229:=Tryz.underlying209
 a229:=Tryz.isAgg209
 z229:=Tryz.sizeOf209
 v229:=Tryz.zeroValue209 }
def Tryz.laysInts_ren : Go.Shelf.Ren:=⟨fun | 191=>58 | 189=>80 | 125=>75 | 257=>111 | 128=>105 | 129=>106 | 294=>134 | 295=>135 | 296=>136 | 297=>137 | 298=>138 | 299=>139 | 216=>140 | 300=>141 | 301=>142 | 328=>159 | 329=>121 | 330=>122 | 331=>160 | 332=>161 | 215=>162 | 343=>168 | n=>n,fun | 28=>47 | 0=>0 | 3=>3 | 46=>140 | 51=>166 | 53=>168 | 4=>4 | 183=>160 | 182=>159 | 131=>101 | 5=>5 | 9=>9 | 218=>181 | 222=>185 | 228=>208 | 229=>209 | n=>n,fun | n=>n⟩
theorem Tryz.laysInts : Go.Proofs.Lays.n191 Tryz.prog Tryz.laysInts_ren:={
 mixed:=by kernel_rfl
 f125:=Tryz.func75.trans (congrArg some (by kernel_rfl))
 f128:=Tryz.func105.trans (congrArg some (by kernel_rfl))
 f129:=Tryz.func106.trans (congrArg some (by kernel_rfl))
 f189:=Tryz.func80.trans (congrArg some (by kernel_rfl))
 f191:=Tryz.func58.trans (congrArg some (by kernel_rfl))
 f215:=Tryz.func162.trans (congrArg some (by kernel_rfl))
 f216:=Tryz.func140.trans (congrArg some (by kernel_rfl))
 f257:=Tryz.func111.trans (congrArg some (by kernel_rfl))
 f294:=Tryz.func134.trans (congrArg some (by kernel_rfl))
 f295:=Tryz.func135.trans (congrArg some (by kernel_rfl))
 f296:=Tryz.func136.trans (congrArg some (by kernel_rfl))
 f297:=Tryz.func137.trans (congrArg some (by kernel_rfl))
 f298:=Tryz.func138.trans (congrArg some (by kernel_rfl))
 f299:=Tryz.func139.trans (congrArg some (by kernel_rfl))
 f300:=Tryz.func141.trans (congrArg some (by kernel_rfl))
 f301:=Tryz.func142.trans (congrArg some (by kernel_rfl))
 f328:=Tryz.func159.trans (congrArg some (by kernel_rfl))
 f329:=Tryz.func121.trans (congrArg some (by kernel_rfl))
 f330:=Tryz.func122.trans (congrArg some (by kernel_rfl))
 f331:=Tryz.func160.trans (congrArg some (by kernel_rfl))
 f332:=Tryz.func161.trans (congrArg some (by kernel_rfl))
 f343:=Tryz.func168.trans (congrArg some (by kernel_rfl))
 t0:=Tryz.underlying0
 a0:=Tryz.isAgg0
 z0:=Tryz.sizeOf0
 v0:=Tryz.zeroValue0
 t3:=Tryz.underlying3
 a3:=Tryz.isAgg3
 z3:=Tryz.sizeOf3
 v3:=Tryz.zeroValue3
 t4:=Tryz.underlying4
 a4:=Tryz.isAgg4
 z4:=Tryz.sizeOf4
 v4:=Tryz.zeroValue4
 t5:=Tryz.underlying5
 a5:=Tryz.isAgg5
 z5:=Tryz.sizeOf5
 v5:=Tryz.zeroValue5
 t9:=Tryz.underlying9
 a9:=Tryz.isAgg9
 z9:=Tryz.sizeOf9
 v9:=Tryz.zeroValue9
 t28:=Tryz.underlying47
 a28:=Tryz.isAgg47
 z28:=Tryz.sizeOf47
 v28:=Tryz.zeroValue47
 t46:=Tryz.underlying140
 a46:=Tryz.isAgg140
 z46:=Tryz.sizeOf140
 v46:=Tryz.zeroValue140
 t51:=Tryz.underlying166
 a51:=Tryz.isAgg166
 z51:=Tryz.sizeOf166
 v51:=Tryz.zeroValue166
 t53:=Tryz.underlying168
 a53:=Tryz.isAgg168
 z53:=Tryz.sizeOf168
 v53:=Tryz.zeroValue168
 t131:=Tryz.underlying101
 a131:=Tryz.isAgg101
 z131:=Tryz.sizeOf101
 v131:=Tryz.zeroValue101
 t182:=Tryz.underlying159
 a182:=Tryz.isAgg159
 z182:=Tryz.sizeOf159
 v182:=Tryz.zeroValue159
 t183:=Tryz.underlying160
 a183:=Tryz.isAgg160
 z183:=Tryz.sizeOf160
 v183:=Tryz.zeroValue160
 t218:=Tryz.underlying181
 a218:=Tryz.isAgg181
 z218:=Tryz.sizeOf181
 v218:=Tryz.zeroValue181
 t222:=Tryz.underlying185
 a222:=Tryz.isAgg185
 z222:=Tryz.sizeOf185
 v222:=Tryz.zeroValue185
 t228:=Tryz.underlying208
 a228:=Tryz.isAgg208
 z228:=Tryz.sizeOf208
 v228:=Tryz.zeroValue208
 t229:=Tryz.underlying209
 a229:=Tryz.isAgg209
 z229:=Tryz.sizeOf209
 v229:=Tryz.zeroValue209 }
def Tryz.keys57_ren : Go.Shelf.Ren:=⟨fun | 7=>57 | 10=>81 | n=>n,fun | 23=>114 | 26=>3 | 3=>4 | 28=>118 | 0=>0 | 27=>117 | 33=>141 | 4=>4 | n=>n,fun | n=>n⟩
theorem Tryz.keys57 : Go.Proofs.SlLaysZI.n7 Tryz.prog Tryz.keys57_ren:={
 mixed:=by kernel_rfl
 f7:=⟨Tryz.f57.name,by decide,Tryz.func57.trans (congrArg some (by kernel_rfl))⟩
 f10:=⟨Tryz.f81.name,by decide,Tryz.func81.trans (congrArg some (by kernel_rfl))⟩
 t0:=Tryz.underlying0
 a0:=Tryz.isAgg0
 z0:=Tryz.sizeOf0
 v0:=Tryz.zeroValue0
 t4:=Tryz.underlying4
 a4:=Tryz.isAgg4
 z4:=Tryz.sizeOf4
 v4:=Tryz.zeroValue4
 t23:=Tryz.underlying114
 a23:=Tryz.isAgg114
 z23:=Tryz.sizeOf114
 v23:=Tryz.zeroValue114
 t26:=Tryz.underlying3
 a26:=Tryz.isAgg3
 z26:=Tryz.sizeOf3
 v26:=Tryz.zeroValue3
 t27:=Tryz.underlying117
 a27:=Tryz.isAgg117
 z27:=Tryz.sizeOf117
 v27:=Tryz.zeroValue117
 t28:=Tryz.underlying118
 a28:=Tryz.isAgg118
 z28:=Tryz.sizeOf118
 v28:=Tryz.zeroValue118
 t33:=Tryz.underlying141
 a33:=Tryz.isAgg141
 z33:=Tryz.sizeOf141
 v33:=Tryz.zeroValue141 }
def Tryz.sorted56_ren : Go.Shelf.Ren:=⟨fun | 6=>56 | 8=>79 | 9=>80 | 11=>110 | 13=>75 | 12=>111 | 23=>105 | 24=>106 | 14=>134 | 15=>135 | 16=>136 | 17=>137 | 18=>138 | 19=>139 | 20=>140 | 21=>141 | 22=>142 | 25=>159 | 26=>121 | 27=>122 | 28=>160 | 29=>161 | 30=>162 | 31=>168 | n=>n,fun | 26=>3 | 28=>118 | 24=>47 | 0=>0 | 3=>3 | 37=>140 | 48=>166 | 50=>168 | 4=>4 | 40=>160 | 39=>159 | 45=>101 | 5=>5 | 9=>9 | 51=>181 | 55=>185 | 57=>208 | 58=>209 | 33=>141 | n=>n,fun | n=>n⟩
theorem Tryz.sorted56 : Go.Proofs.SlLaysZI.n6 Tryz.prog Tryz.sorted56_ren:={
 mixed:=by kernel_rfl
 f6:=⟨Tryz.f56.name,by decide,Tryz.func56.trans (congrArg some (by kernel_rfl))⟩
 f8:=⟨Tryz.f79.name,by decide,Tryz.func79.trans (congrArg some (by kernel_rfl))⟩
 f11:=⟨Tryz.f110.name,by decide,Tryz.func110.trans (congrArg some (by kernel_rfl))⟩
 t0:=Tryz.underlying0
 a0:=Tryz.isAgg0
 z0:=Tryz.sizeOf0
 v0:=Tryz.zeroValue0
 t24:=Tryz.underlying47
 a24:=Tryz.isAgg47
 z24:=Tryz.sizeOf47
 v24:=Tryz.zeroValue47
 t26:=Tryz.underlying3
 a26:=Tryz.isAgg3
 z26:=Tryz.sizeOf3
 v26:=Tryz.zeroValue3
 t28:=Tryz.underlying118
 a28:=Tryz.isAgg118
 z28:=Tryz.sizeOf118
 v28:=Tryz.zeroValue118
 i26:=by kernel_rfl }
def Tryz.laysSortF_ren : Go.Shelf.Ren:=⟨fun | 6=>88 | 15=>75 | 14=>116 | 28=>105 | 29=>106 | 20=>144 | 21=>145 | 22=>146 | 23=>147 | 24=>148 | 25=>149 | 26=>150 | 27=>151 | 46=>164 | 47=>121 | 48=>122 | 49=>165 | 50=>166 | 57=>169 | n=>n,fun | 22=>23 | 24=>34 | 25=>134 | 3=>3 | 39=>140 | 0=>0 | 53=>166 | 55=>168 | 4=>4 | 46=>160 | 45=>159 | 50=>101 | 5=>5 | 9=>9 | 66=>181 | 70=>185 | 76=>208 | 77=>209 | n=>n,fun | n=>n⟩
theorem Tryz.laysSortF : Go.Proofs.SlLaysF0.n6 Tryz.prog Tryz.laysSortF_ren:={
 mixed:=by kernel_rfl
 f6:=⟨Tryz.f88.name,by decide,Tryz.func88.trans (congrArg some (by kernel_rfl))⟩
 f14:=⟨Tryz.f116.name,by decide,Tryz.func116.trans (congrArg some (by kernel_rfl))⟩
 f15:=Tryz.func75.trans (congrArg some (by kernel_rfl))
 f20:=⟨Tryz.f144.name,by decide,Tryz.func144.trans (congrArg some (by kernel_rfl))⟩
 f21:=⟨Tryz.f145.name,by decide,Tryz.func145.trans (congrArg some (by kernel_rfl))⟩
 f22:=⟨Tryz.f146.name,by decide,Tryz.func146.trans (congrArg some (by kernel_rfl))⟩
 f23:=⟨Tryz.f147.name,by decide,Tryz.func147.trans (congrArg some (by kernel_rfl))⟩
 f24:=⟨Tryz.f148.name,by decide,Tryz.func148.trans (congrArg some (by kernel_rfl))⟩
 f25:=⟨Tryz.f149.name,by decide,Tryz.func149.trans (congrArg some (by kernel_rfl))⟩
 f26:=⟨Tryz.f150.name,by decide,Tryz.func150.trans (congrArg some (by kernel_rfl))⟩
 f27:=⟨Tryz.f151.name,by decide,Tryz.func151.trans (congrArg some (by kernel_rfl))⟩
 f28:=Tryz.func105.trans (congrArg some (by kernel_rfl))
 f29:=Tryz.func106.trans (congrArg some (by kernel_rfl))
 f46:=⟨Tryz.f164.name,by decide,Tryz.func164.trans (congrArg some (by kernel_rfl))⟩
 f47:=Tryz.func121.trans (congrArg some (by kernel_rfl))
 f48:=Tryz.func122.trans (congrArg some (by kernel_rfl))
 f49:=⟨Tryz.f165.name,by decide,Tryz.func165.trans (congrArg some (by kernel_rfl))⟩
 f50:=⟨Tryz.f166.name,by decide,Tryz.func166.trans (congrArg some (by kernel_rfl))⟩
 f57:=⟨Tryz.f169.name,by decide,Tryz.func169.trans (congrArg some (by kernel_rfl))⟩
 t0:=Tryz.underlying0
 a0:=Tryz.isAgg0
 z0:=Tryz.sizeOf0
 v0:=Tryz.zeroValue0
 t3:=Tryz.underlying3
 a3:=Tryz.isAgg3
 z3:=Tryz.sizeOf3
 v3:=Tryz.zeroValue3
 t4:=Tryz.underlying4
 a4:=Tryz.isAgg4
 z4:=Tryz.sizeOf4
 v4:=Tryz.zeroValue4
 t5:=Tryz.underlying5
 a5:=Tryz.isAgg5
 z5:=Tryz.sizeOf5
 v5:=Tryz.zeroValue5
 t9:=Tryz.underlying9
 a9:=Tryz.isAgg9
 z9:=Tryz.sizeOf9
 v9:=Tryz.zeroValue9
 t22:=Tryz.underlying23
 a22:=Tryz.isAgg23
 z22:=Tryz.sizeOf23
 v22:=Tryz.zeroValue23
 t25:=Tryz.underlying134
 a25:=Tryz.isAgg134
 z25:=Tryz.sizeOf134
 v25:=Tryz.zeroValue134
 t39:=Tryz.underlying140
 a39:=Tryz.isAgg140
 z39:=Tryz.sizeOf140
 v39:=Tryz.zeroValue140
 t45:=Tryz.underlying159
 a45:=Tryz.isAgg159
 z45:=Tryz.sizeOf159
 v45:=Tryz.zeroValue159
 t46:=Tryz.underlying160
 a46:=Tryz.isAgg160
 z46:=Tryz.sizeOf160
 v46:=Tryz.zeroValue160
 t50:=Tryz.underlying101
 a50:=Tryz.isAgg101
 z50:=Tryz.sizeOf101
 v50:=Tryz.zeroValue101
 t53:=Tryz.underlying166
 a53:=Tryz.isAgg166
 z53:=Tryz.sizeOf166
 v53:=Tryz.zeroValue166
 t55:=Tryz.underlying168
 a55:=Tryz.isAgg168
 z55:=Tryz.sizeOf168
 v55:=Tryz.zeroValue168
 t66:=Tryz.underlying181
 a66:=Tryz.isAgg181
 z66:=Tryz.sizeOf181
 v66:=Tryz.zeroValue181
 t70:=Tryz.underlying185
 a70:=Tryz.isAgg185
 z70:=Tryz.sizeOf185
 v70:=Tryz.zeroValue185
 t76:=Tryz.underlying208
 a76:=Tryz.isAgg208
 z76:=Tryz.sizeOf208
 v76:=Tryz.zeroValue208
 t77:=Tryz.underlying209
 a77:=Tryz.isAgg209
 z77:=Tryz.sizeOf209
 v77:=Tryz.zeroValue209 }
def Tryz.laysWB_ren : Go.Shelf.Ren:=⟨fun | 167=>93 | 240=>118 | 276=>152 | n=>n,fun | 9=>9 | 3=>3 | 4=>4 | 0=>0 | 20=>20 | 72=>149 | 70=>146 | 37=>147 | 75=>152 | 164=>205 | 5=>5 | 80=>155 | n=>n,fun | n=>n⟩
theorem Tryz.laysWB : Go.Proofs.Lays.n167 Tryz.prog Tryz.laysWB_ren:={
 mixed:=by kernel_rfl
 f167:=Tryz.func93.trans (congrArg some (by kernel_rfl))
 f240:=Tryz.func118.trans (congrArg some (by kernel_rfl))
 f276:=Tryz.func152.trans (congrArg some (by kernel_rfl))
 t0:=Tryz.underlying0
 a0:=Tryz.isAgg0
 z0:=Tryz.sizeOf0
 v0:=Tryz.zeroValue0
 t4:=Tryz.underlying4
 a4:=Tryz.isAgg4
 z4:=Tryz.sizeOf4
 v4:=Tryz.zeroValue4
 t5:=Tryz.underlying5
 a5:=Tryz.isAgg5
 z5:=Tryz.sizeOf5
 v5:=Tryz.zeroValue5
 t9:=Tryz.underlying9
 a9:=Tryz.isAgg9
 z9:=Tryz.sizeOf9
 v9:=Tryz.zeroValue9
 t20:=Tryz.underlying20
 a20:=Tryz.isAgg20
 z20:=Tryz.sizeOf20
 v20:=Tryz.zeroValue20
 t37:=Tryz.underlying147
 a37:=Tryz.isAgg147
 z37:=Tryz.sizeOf147
 v37:=Tryz.zeroValue147
 t70:=Tryz.underlying146
 a70:=Tryz.isAgg146
 z70:=Tryz.sizeOf146
 v70:=Tryz.zeroValue146
 t72:=Tryz.underlying149
 a72:=Tryz.isAgg149
 z72:=Tryz.sizeOf149
 v72:=Tryz.zeroValue149
 t75:=Tryz.underlying152
 a75:=Tryz.isAgg152
 z75:=Tryz.sizeOf152
 v75:=Tryz.zeroValue152
 t164:=Tryz.underlying205
 a164:=Tryz.isAgg205
 z164:=Tryz.sizeOf205
 v164:=Tryz.zeroValue205 }
theorem Tryz.bxJoin : Builder.Extra Tryz.prog Tryz.laysJoin_ren:={
 sizeBuilder:=by kernel_rfl
 liesBuilder:=by kernel_rfl
 t5:=Tryz.underlying5
 a5:=Tryz.isAgg5
 z5:=Tryz.sizeOf5
 v5:=Tryz.zeroValue5
 infoByte:=by kernel_rfl
 cellsByte:=by kernel_rfl
 sizeByte:=by kernel_rfl
 neB5:=by decide }
theorem Tryz.bxWB : Builder.Extra Tryz.prog Tryz.laysWB_ren:={
 sizeBuilder:=by kernel_rfl
 liesBuilder:=by kernel_rfl
 t5:=Tryz.underlying5
 a5:=Tryz.isAgg5
 z5:=Tryz.sizeOf5
 v5:=Tryz.zeroValue5
 infoByte:=by kernel_rfl
 cellsByte:=by kernel_rfl
 sizeByte:=by kernel_rfl
 neB5:=by decide }
theorem Tryz.bxBS : Builder.Extra Tryz.prog Tryz.laysBS_ren:={
 sizeBuilder:=by kernel_rfl
 liesBuilder:=by kernel_rfl
 t5:=Tryz.underlying5
 a5:=Tryz.isAgg5
 z5:=Tryz.sizeOf5
 v5:=Tryz.zeroValue5
 infoByte:=by kernel_rfl
 cellsByte:=by kernel_rfl
 sizeByte:=by kernel_rfl
 neB5:=by decide }
end Go.Proofs
namespace Go.Ab

theorem rng_ex {S R:Type}{g:Int→S→Option (S ⊕ R)}(Inv:Nat→S→Prop) (Ex:R→Prop){n:Nat}(h:∀ i s,i < n→Inv i s→(∃ s',g (i:Int) s=some (.inl s')∧Inv (i+1) s')∨∃ r,g (i:Int) s=some (.inr r)∧Ex r) :
  ∀ (k i:Nat) (s:S),i+k=n→Inv i s→(∃ s',rng g k (i:Int) s=some (.inl s')∧Inv n s')∨∃ r,rng g k (i:Int) s=some (.inr r)∧Ex r:=by
 intro k
 induction k with
 | zero=>intro i s hi hs; left; exact ⟨s,rfl,by rw [← hi]; simpa using hs⟩
 | succ k ih =>
  intro i s hi hs
  rcases h i s (by omega) hs with ⟨s',h1,h2⟩ | ⟨r,h1,h2⟩
  ·simp only [rng,h1,Option.bind_some]
   have:=ih (i+1) s' (by omega) h2
   simpa using this
  ·right
   exact ⟨r,by simp only [rng,h1,Option.bind_some],h2⟩
theorem rng_ex0 {S R:Type}{g:Int→S→Option (S ⊕ R)}(Inv:Nat→S→Prop) (Ex:R→Prop){n:Nat}(h:∀ i s,i < n→Inv i s→(∃ s',g (i:Int) s=some (.inl s')∧Inv (i+1) s')∨∃ r,g (i:Int) s=some (.inr r)∧Ex r){s:S}(h0:Inv 0 s) :
  (∃ s',rng g n 0 s=some (.inl s')∧Inv n s')∨∃ r,rng g n 0 s=some (.inr r)∧Ex r:=rng_ex Inv Ex h n 0 s (by omega) h0
theorem rng_inv {S R:Type}{g:Int→S→Option (S ⊕ R)}(Inv:Nat→S→Prop){n:Nat}(h:∀ i s,i < n→Inv i s→∃ s',g (i:Int) s=some (.inl s')∧Inv (i+1) s'){s:S}(h0:Inv 0 s) : ∃ s',rng g n 0 s=some (.inl s')∧Inv n s':=by
 rcases rng_ex0 Inv (fun _:R=>False) (fun i s hi hs=>.inl (h i s hi hs)) h0 with h | ⟨r,_,h⟩
 ·exact h
 ·exact h.elim
theorem ix_nat {α:Type}{x:List α}{i:Nat}(h:i < x.length) : ix x (i:Int)=some x[i]:=by
 unfold ix
 rw [if_pos (by omega)]
 simp [h]
theorem zBS {α:Type}(x:List α) : Int.toNat (List.length x : Int)=x.length:=by simp
end Go.Ab
namespace Go.Ab
open Go.RowKit Go.Shelf Go.Proofs Go.Eng

def Tot {α:Type}(p:Option α) (Q:α→Prop) : Prop:=∃ r,p=some r∧Q r
theorem zAB {α:Type}{r:α}{Q:α→Prop}(h:Q r) : Tot (some r) Q:=⟨r,rfl,h⟩
theorem Tot.bind {α β:Type}{p:Option α}{f:α→Option β}{Q:α→Prop}{R:β→Prop}(h:Tot p Q) (k:∀ r,Q r→Tot (f r) R) : Tot (p.bind f) R:=by
 obtain ⟨r,rfl,hq⟩:=h
 exact k r hq
theorem Tot.mono {α:Type}{p:Option α}{Q R:α→Prop}(h:Tot p Q) (k:∀ r,Q r→R r) : Tot p R:=let ⟨r,h1,h2⟩:=h; ⟨r,h1,k r h2⟩
theorem Tot.eq {α:Type}{p:Option α}{r:α}(h:Tot p (·=r)) : p=some r:=by obtain ⟨q,h1,rfl⟩:=h; exact h1
theorem zAR {α:Type}{c:Bool}{p q:Option α}{Q:α→Prop}(ht:c=true→Tot p Q) (hf:c=false→Tot q Q) : Tot (bif c then p else q) Q:=by
 cases c
 ·exact hf rfl
 ·exact ht rfl
theorem zAi {α:Type}{c:Bool}{p:Option α}{Q:α→Prop}(h:c=true) (ht:Tot p Q) : Tot (bif c then p else none) Q:=by rw [h]; exact ht
theorem zAq {S R:Type}{g:Int→S→Option (S ⊕ R)}{n:Nat}{s:S}(Inv:Nat→S→Prop) (h0:Inv 0 s) (h:∀ i s,i < n→Inv i s→Tot (g (i:Int) s) fun o=>∃ s',o=.inl s'∧Inv (i+1) s') : Tot (rng g n 0 s) fun o=>∃ s',o=.inl s'∧Inv n s':=by
 obtain ⟨s',h1,h2⟩:=rng_inv (g:=g) (n:=n) (s:=s) Inv (fun i s hi hs=>by
  obtain ⟨r,h1,s',rfl,h2⟩:=h i s hi hs
  exact ⟨s',h1,h2⟩) h0
 exact ⟨_,h1,s',rfl,h2⟩
theorem zA1 {S R:Type}{g:Int→S→Option (S ⊕ R)}{n:Nat}{s:S}(Inv:Nat→S→Prop) (Ex:R→Prop) (h0:Inv 0 s) (h:∀ i s,i < n→Inv i s→Tot (g (i:Int) s) fun o=>(∃ s',o=.inl s'∧Inv (i+1) s')∨∃ r,o=.inr r∧Ex r) : Tot (rng g n 0 s) fun o=>(∃ s',o=.inl s'∧Inv n s')∨∃ r,o=.inr r∧Ex r:=by
 rcases rng_ex0 (g:=g) (n:=n) (s:=s) Inv Ex (fun i s hi hs=>by
  obtain ⟨r,h1,⟨s',rfl,h2⟩ | ⟨r,rfl,h2⟩⟩:=h i s hi hs
  ·exact .inl ⟨s',h1,h2⟩
  ·exact .inr ⟨r,h1,h2⟩) h0 with ⟨s',h1,h2⟩ | ⟨r,h1,h2⟩
 ·exact ⟨_,h1,.inl ⟨s',rfl,h2⟩⟩
 ·exact ⟨_,h1,.inr ⟨r,rfl,h2⟩⟩

theorem zBW {α:Type} [Inhabited α] {x:List α}{i:Nat}(h:i < x.length) : ix x (i:Int)=some (x.getD i default):=by
 rw [ix_nat h,List.getD_eq_getElem?_getD,List.getElem?_eq_getElem h]; rfl
theorem ix_int {α:Type} [Inhabited α] {x:List α}{z:Int}(h0:0≤z) (h:z < x.length) : ix x z=some (x.getD z.toNat default):=by
 have:=zBW (x:=x) (i:=z.toNat) (by omega)
 rwa [show ((z.toNat : Nat) : Int)=z by omega] at this
theorem zA2 {α:Type} [Inhabited α] {x:List α}{i:Nat}(h:i < x.length){β:Type}{f:α→Option β}{Q:β→Prop}(k:Tot (f (x.getD i default)) Q) : Tot ((ix x (i:Int)).bind f) Q:=by rw [zBW h]; exact k
theorem tot_ixz {α:Type} [Inhabited α] {x:List α}{z:Int}(h0:0≤z) (h:z < x.length){β:Type}{f:α→Option β}{Q:β→Prop}(k:Tot (f (x.getD z.toNat default)) Q) : Tot ((ix x z).bind f) Q:=by rw [ix_int h0 h]; exact k
theorem zBV {α:Type}{x:List α}{j:Nat}{d:α}(h:j < x.length) : x.getD j d∈x:=by
 rw [List.getD_eq_getElem?_getD,List.getElem?_eq_getElem h]; simp
theorem zB4 {α:Type}{x:List α}{v:α}(d:α) (h:v∈x) : ∃ j,j < x.length∧x.getD j d=v:=by
 obtain ⟨j,hj,rfl⟩:=List.getElem_of_mem h
 exact ⟨j,hj,by rw [List.getD_eq_getElem?_getD,List.getElem?_eq_getElem hj]; rfl⟩
theorem zCx {α:Type}{x:List α}{i:Nat}(d:α) (h:i < x.length) : x.take (i+1)=x.take i++[x.getD i d]:=by
 rw [List.take_add_one,List.getElem?_eq_getElem h,List.getD_eq_getElem?_getD,List.getElem?_eq_getElem h]; rfl

def R64 (z:Int) : Prop:=-9223372036854775808≤z∧z≤9223372036854775807
theorem w64_id {z:Int}(h:R64 z) : w64 z=z:=wrap_i64 h
theorem zBf {b n:Nat}(h:n * b≤140737488355328) : apOk b n=true:=by
 simp only [apOk,Nat.ble_eq]; exact h
theorem strOk_t {n:Nat}(h:n≤140737488355328) : strOk n=true:=by simp only [strOk,Nat.ble_eq]; exact h
theorem slOk_t {lo hi:Int}{n:Nat}(h0:0≤lo) (h1:lo≤hi) (h2:hi≤n) : slOk lo hi n=true:=by
 simp only [slOk,Bool.and_eq_true,decide_eq_true_eq]; exact ⟨⟨h0,h1⟩,h2⟩

end Go.Ab
namespace Go.Ab

def insI (x:Int) : List Int→List Int
 | []=>[x]
 | y::r=>bif decide (x≤y) then x::y::r else y::insI x r
def zBT : List Int→List Int
 | []=>[]
 | x::r=>insI x (zBT r)
theorem insI_perm (x:Int) : ∀ l : List Int,(insI x l).Perm (x::l):=by
 intro l
 induction l with
 | nil=>exact List.Perm.refl _
 | cons y r ih =>
  unfold insI
  cases decide (x≤y)
  ·exact (List.Perm.cons _ ih).trans (List.Perm.swap _ _ _)
  ·exact List.Perm.refl _
theorem zBw : ∀ l : List Int,(zBT l).Perm l:=by
 intro l
 induction l with
 | nil=>exact List.Perm.refl _
 | cons x r ih=>exact (insI_perm x _).trans (List.Perm.cons _ ih)
theorem insI_sorted (x:Int) : ∀ l : List Int,l.Pairwise (·≤·)→(insI x l).Pairwise (·≤·):=by
 intro l
 induction l with
 | nil=>intro _; simp [insI]
 | cons y r ih =>
  intro h
  rw [List.pairwise_cons] at h
  unfold insI
  cases hc : decide (x≤y) with
  | false =>
   rw [cond_false,List.pairwise_cons]
   refine ⟨fun z hz=>?_,ih h.2⟩
   have h1 : ¬ x≤y:=of_decide_eq_false hc
   rcases List.mem_cons.1 ((insI_perm x r).mem_iff.1 hz) with rfl | hz
   ·omega
   ·exact h.1 z hz
  | true =>
   have h1 : x≤y:=of_decide_eq_true hc
   rw [cond_true,List.pairwise_cons]
   refine ⟨fun z hz=>?_,List.pairwise_cons.2 h⟩
   rcases List.mem_cons.1 hz with rfl | hz
   ·exact h1
   ·have:=h.1 z hz; omega
theorem isortI_sorted : ∀ l : List Int,(zBT l).Pairwise (·≤·):=by
 intro l
 induction l with
 | nil=>simp [zBT]
 | cons x r ih=>exact insI_sorted x _ ih
theorem sorted_uniq : ∀ {a b:List Int},a.Perm b→a.Pairwise (·≤·)→b.Pairwise (·≤·)→a=b:=by
 intro a
 induction a with
 | nil=>intro b hp _ _; exact (List.nil_perm.1 hp).symm
 | cons x a ih =>
  intro b hp ha hb
  cases b with
  | nil=>exact absurd (List.nil_perm.1 hp.symm) (by simp)
  | cons y b =>
   rw [List.pairwise_cons] at ha hb
   have h1 : x≤y:=by
    rcases List.mem_cons.1 (hp.mem_iff.2 (List.mem_cons_self (a:=y) (l:=b))) with h | h
    ·omega
    ·exact ha.1 y h
   have h2 : y≤x:=by
    rcases List.mem_cons.1 (hp.mem_iff.1 (List.mem_cons_self (a:=x) (l:=a))) with h | h
    ·omega
    ·exact hb.1 x h
   have h3 : x=y:=by omega
   subst h3
   rw [ih ((List.perm_cons x).1 hp) ha.2 hb.2]
theorem isort_eq (l:List Int) : (l.mergeSort fun x y=>decide (x≤y))=zBT l:=by
 refine sorted_uniq ((List.mergeSort_perm _ _).trans (zBw l).symm) ?_ (isortI_sorted l)
 have:=List.pairwise_mergeSort (le:=fun (x y:Int)=>decide (x≤y)) (by intro a b c h1 h2; simp at *; omega) (by intro a b; simp; omega) l
 exact this.imp (fun h=>by simpa using h)
end Go.Ab
namespace Go.Ab
open Go
def nonP (x:Nat) : Bool:=decide ((x:Int)≤32)||decide (126 < (x:Int))
def f34 (p0:Int) : Option (Bool) :=
some ((decide (p0≤32))||(decide (126 < p0)))
def fCF (s:Str) : Option Bool:=some (decide (0≤Lib.idxFunc nonP true (bstr s)))
def fWB (s:Str) (c:Int) : Option Str:=bif decide (0≤c)&&decide (c < 256)&&strOk (s.length+1) then some (s++[UInt8.ofNat c.toNat]) else none
def fBS (s:Str) : Option Str:=some s
def fJoin (xs:List Str) (sep:Str) : Option Str:=bif Nat.ble xs.length 140737488355328&&Nat.ble (Lib.join xs sep).length 140737488355328 then some (Lib.join xs sep) else none
def fCmp (a b:Str) : Option Int:=some (Lib.compareBytes a b)
end Go.Ab
namespace Go.Ab
def zBs {α:Type}(x:List α) : Option (List α):=some x
def skeys {α:Type}(x:List (Int×α)) : Option (List Int):=bif (x.all fun p=>decide (-9223372036854775808≤p.1)&&decide (p.1≤9223372036854775807))&&Nat.ble x.length 1000000000000 then some (zBT (x.map (·.1))) else none
def sortI (p0_0:List Int) : Option (List Int):=bif Nat.blt p0_0.length 4611686018427387904 then some (zBT p0_0) else none
def segL (s:Str) : Bool:=decide (32 < (s.length : Int))||decide (0≤Lib.idxFunc nonP true (bstr s))
def pOkL (c:Str×Str) : Bool:=!(segL c.1)&&!(segL c.2)&&!(decide (c.1=[])&&decide (c.2=[]))
def cmpP (x y:Str×Str) : Int:=if Lib.compareBytes x.1 y.1=0 then Lib.compareBytes x.2 y.2 else Lib.compareBytes x.1 y.1
def zDo (l:ZN) : ZN:=l.mergeSort fun x y=>decide (cmpP x y≤0)
def skeysC {α:Type}(x:List (ZC×α)) : Option (ZN):=bif (x.all fun p=>pOkL p.1)&&Nat.ble x.length 1000000000 then some (zDo (x.map (·.1))) else none
def zDl {α:Type}(c:List (Int×α)) (s:List (Int×Bool)) : Nat:=(c.filter fun p=>!((mget s p.1).getD false)).length
def visG (c:List (Int×ZM)) : Bool:=c.all fun q=>q.2.all fun p=>(asI 86 .i64 p.2).isSome
def visOk (n:Nat) (c:List (Int×ZM)) (s:List (Int×Bool)) : Bool:=visG c&&Nat.blt (zDl c s) n
end Go.Ab
namespace Go.Ab
open Go.RowKit Go.Shelf Go.Proofs Go.Eng
end Go.Ab
namespace Go.Ab
open Go.RowKit Go.Shelf Go.Proofs Go.Eng
theorem runs_keys {P:Program}{f g T:Nat}{tk tv:Ty}{x:List (tk.den×tv.den)}(h:∀ mb w,Calls P f #[.map mb] w fun e w'=>e=.returned (.func (.func g) #[] #[.pointer (some ⟨w.heap.size,0,none⟩)])∧w'=w.alloc (.cells #[.map mb] T)) :
  Runs P f [.dm tk tv x] [] (fun q Hq=>q=[.fn g [] [.ptr 0 0]]∧Hq=[.var T [.dm tk tv x]]):=by
 intro e w m ρ φ F vs hv ho hs
 have hρ : ρ=[]:=List.eq_nil_of_length_eq_zero ho.nρ
 have hφ : φ=[]:=List.eq_nil_of_length_eq_zero ho.nφ
 subst hρ hφ
 obtain ⟨u,rfl,hu⟩:=zCG hv
 simp only [RepA] at hu
 obtain ⟨mb,rfl⟩ : ∃ mb,u=.map mb:=by
  rcases dm_cases hu with ⟨_,rfl⟩ | ⟨_,_,b,_,_,rfl,_⟩ <;> exact ⟨_,rfl⟩
 refine Calls.mono (h mb w) ?_
 rintro e' w' ⟨rfl,rfl⟩
 have hN:=zBh w (.cells #[.map mb] T (0,0))
 have hs2:=hs.alloc hN rfl
 refine ⟨_,rfl,dk_new hN,_,_,m,[.pointer (some ⟨w.heap.size,0,none⟩)],[[(w.heap.size,.cells #[.map mb] T (0,0))]],⟨rfl,rfl⟩,Mem.le_refl _,fun i h hi=>by simp at hi,by simp,⟨rfl,rfl,fun i o u f hi hh hf=>?_⟩,by simpa using hs2,[.func (.func g) #[] #[.pointer (some ⟨w.heap.size,0,none⟩)]],?_,rfl⟩
 ·cases i with
  | zero =>
   simp at hi hh hf; subst hi hh hf
   refine ⟨w.heap.size,[.map mb],rfl,rfl,?_,fun v hv=>by simp at hv; subst hv; rfl⟩
   simp only [RepL,RepA]; exact ⟨hu,trivial⟩
  | succ i=>simp at hi
 ·simp only [RepL,RepA]
  exact ⟨⟨[],[.pointer (some ⟨w.heap.size,0,none⟩)],rfl,by simp [RepL],by simp [RepL,RepA]⟩,trivial⟩

theorem SH.addnew {e w w':World}{m:Mem}{f:Frag}{b:Nat}{o:Obj}(h:SH e w m f) (hb:Below w.heap.size w w') (hn:w.heap.size≤b) (ho:w'.heap[b]?=some o) (hc:ctl o=false) : SH e w' m ((b,o)::f):=by
 have h2:=h.ext hb
 refine ⟨h2.os,h2.tape,h2.output,h2.fz,fun p hp=>?_,?_,fun p hp=>?_,fun p hp=>?_,h2.mctl,h2.esz⟩
 ·rcases List.mem_cons.1 hp with rfl | hp
  ·exact ho
  ·exact h2.own p hp
 ·rw [List.map_cons,List.nodup_cons]
  refine ⟨fun hm=>?_,h2.nd⟩
  obtain ⟨p,hp,e1⟩:=List.mem_map.1 hm
  have:=h.lt hp
  simp only at e1; omega
 ·rcases List.mem_cons.1 hp with rfl | hp
  ·cases hmm : m b with
   | none=>rfl
   | some o'=>have:=(Array.getElem?_eq_some_iff.1 (h.fz _ _ hmm)).1; omega
  ·exact h2.dis p hp
 ·rcases List.mem_cons.1 hp with rfl | hp
  ·intro h9; rw [hc] at h9; cases h9
  ·exact h2.noctl p hp

section
variable {P:Program} {tv:Ty}
def R0 : Value→Option (DataW Unit×List MemPlace):=fun _=>some (.nil,[])
theorem keyOf_int {kT:Nat}(hk:P.underlying kT=some (.int .i64)){z:Int}(h1:-9223372036854775808≤z) (h2:z≤9223372036854775807) : keyOf P kT (.int .i64 z)=some (.int .i64 z):=by
 unfold keyOf
 rw [hk]
 simp only [mapKey,hk]
 rw [if_pos]
 refine ⟨by trivial,?_⟩
 simp only [Lit.wf,Bool.and_eq_true,decide_eq_true_eq]
 exact ⟨h1,h2⟩
theorem owns_int {kT b:Nat}(hk:P.underlying kT=some (.int .i64)){x:List (Int×tv.den)}{m:Mem}{w:World}{es:Array MapEntry}{cl:Nat}(hw:w.heap[b]?=some (.map es cl)) (hE:EntM m (.int .i64) tv x es cl) (hr:∀ p∈x,-9223372036854775808≤p.1∧p.1≤9223372036854775807) (hl:x.length≤1000000000000) :
  ∃ D0 : DataW Unit,w.ownsMap P kT R0 b x.length D0∧Maps.size D0=x.length∧(intKeys D0).Perm (x.map (·.1)):=by
 have hlen : es.toList.length=x.length:=hE.1
 have hkey : ∀ (i:Nat) (e:MapEntry),es.toList[i]?=some e→∃ p,x[i]?=some p∧e.key=.int .i64 p.1:=by
  intro i e he
  have hi:=(List.getElem?_eq_some_iff.1 he).1
  have hx : x[i]?=some (x[i]'(by omega)):=List.getElem?_eq_getElem (by omega)
  have h1:=(hE.2.2.2 i _ e hx he).1
  refine ⟨_,hx,?_⟩
  simpa [RV,Ty.agg,RC] using h1
 have hkl : es.toList.map (·.key)=x.map fun p=>Value.int .i64 p.1:=by
  refine List.ext_getElem? fun i=>?_
  rw [List.getElem?_map,List.getElem?_map]
  rcases h : es.toList[i]? with _ | e
  ·have : x[i]?=none:=by rw [List.getElem?_eq_none_iff] at h ⊢; omega
   rw [this]; rfl
  ·obtain ⟨p,h1,h2⟩:=hkey i e h
   rw [h1]; simp [h2]
 have hrd : ∀ e∈es.toList,∃ p∈x,WideElems.rd P kT R0 e=some (Lit.int .i64 p.1,DataW.nil)∧e.key=.int .i64 p.1:=by
  intro e he
  obtain ⟨i,hi⟩:=List.getElem?_of_mem he
  obtain ⟨p,h1,h2⟩:=hkey i e hi
  have hp:=List.mem_of_getElem? h1
  refine ⟨p,hp,?_,h2⟩
  unfold WideElems.rd
  rw [h2,keyOf_int hk (hr p hp).1 (hr p hp).2]
  rfl
 refine ⟨_,⟨es,cl,hw,⟨?_,⟨fun e he=>hE.2.2.1.2 e he,hE.2.2.1.1,?_⟩,fun e he=>let ⟨p,_,h,_⟩:=hrd e he; ⟨_,h⟩⟩,?_,rfl⟩,?_,?_⟩
 ·have h1 : es.size=x.length:=by simpa using hlen
  rw [h1]; simp only [maxLen]; omega
 ·rw [hkl]
  have h2 : (x.map fun p=>Value.int .i64 p.1)=(x.map (·.1)).map (Value.int .i64):=by simp
  rw [h2]
  refine List.Pairwise.map _ ?_ hE.2.1
  intro a b hab e
  exact hab (by simpa using e)
 ·have h1 : es.size=x.length:=by simpa using hlen
  omega
 ·simp only [Maps.size]
  rw [(WideShapes.sorted_perm _).length_eq,List.length_map]; exact hlen
 ·simp only [intKeys]
  refine ((WideShapes.sorted_perm _).map _).trans ?_
  rw [List.map_map]
  refine List.Perm.of_eq ?_
  refine List.ext_getElem? fun i=>?_
  rw [List.getElem?_map,List.getElem?_map]
  rcases h : es.toList[i]? with _ | e
  ·have : x[i]?=none:=by rw [List.getElem?_eq_none_iff] at h ⊢; omega
   rw [this]; rfl
  ·obtain ⟨p,h1,h2⟩:=hkey i e h
   have hp:=List.mem_of_getElem? h1
   rw [h1]
   simp only [Option.map_some,Function.comp,WideElems.rg,WideElems.rd,h2,keyOf_int hk (hr p hp).1 (hr p hp).2,R0]
   rfl
end
end Go.Ab
namespace Go.Ab
open Go.RowKit Go.Shelf Go.Proofs Go.Eng Go.Maps Go.Sort
theorem Tryz_sorts56 (m:Nat) : AnyZI.SortsIn Tryz.prog Tryz.sorted56_ren Fence.wide m :=
 ⟨fun blk off cap ss W hH hblk hsz=>callsIn_wide.2 (Any.slices_Sort_int Tryz.laysSort blk off cap ss W hH hblk hsz),fun p cap W=>callsIn_wide.2 (Any.slices_Sort_int_none Tryz.laysSort p cap W)⟩
def SortG (g:Nat) (S:List Int→Prop) (Bm:Nat) (w:World) : Prop :=
 Calls Tryz.prog 56 #[.func (.func g) #[] #[.pointer (some ⟨Bm,0,none⟩)]] w fun e w'=>∃ (v:Value) (ss:List Int),e=.returned v∧S ss∧w'.ownsRow w.heap.size 3 1 v ss.length ((ss.mergeSort fun x y=>decide (x≤y)).map (Value.int .i64))∧Below w.heap.size w w'
theorem sortG {g:Nat}(eg:∀ args w,(callFunc g args).run Tryz.prog w=.ok (.enter g args) w){S:List Int→Prop}{Bm n:Nat}{w:World}(hn:n≤1000000000000) (hseq:SeqGives Fence.wide 2 Tryz.prog g #[.pointer (some ⟨Bm,0,none⟩)] encZ S n w) : SortG g S Bm w:=by
 unfold SortG
 refine (callsIn_wide (n:=5)).1 ?_
 have cS:=AnyZI.sorted_in Tryz.sorted56 Fence.wide 5 trivial trivial trivial trivial rfl (by omega) (Tryz_sorts56 _) (enters_of Tryz.func80 (by kernel_rfl) rfl) g #[.pointer (some ⟨Bm,0,none⟩)] trivial eg S n (by simp only [maxLen]; omega) (by omega) w hseq
 refine CallsIn.mono cS ?_
 rintro e w' ⟨v,ss,h1,h2,h3,_,h4⟩
 exact ⟨v,ss,h1,h2,h3,h4⟩
theorem skeys_some {α:Type}{x:List (Int×α)}{r:List Int}(h:skeys x=some r) : (∀ p∈x,-9223372036854775808≤p.1∧p.1≤9223372036854775807)∧x.length≤1000000000000∧r=zBT (x.map (·.1)):=by
 unfold skeys at h
 obtain ⟨h1,h2⟩:=zAN h
 rw [Bool.and_eq_true,List.all_eq_true] at h1
 refine ⟨fun p hp=>by have:=h1.1 p hp; simpa using this,Nat.le_of_ble_eq_true h1.2,(Option.some.inj h2).symm⟩
theorem runs_sorted {g T:Nat}{tv:Ty}{x:List (Int×tv.den)}{r:List Int}(hr:skeys x=some r)
  (h1:∀ (Bm b nn:Nat) (D0:DataW Unit) (w:World),Bm < w.heap.size→w.cell? ⟨Bm,0,none⟩=some (.map (some b))→w.ownsMap Tryz.prog 3 R0 b nn D0→Maps.size D0≤1000000000000→SortG g (fun ss=>ss.Perm (intKeys D0)) Bm w)
  (h0:∀ (Bm:Nat) (w:World),Bm < w.heap.size→w.cell? ⟨Bm,0,none⟩=some (.map none)→SortG g (fun ss=>ss=[]) Bm w) :
  Runs Tryz.prog 56 [.fn g [] [.ptr 0 0]] [.var T [.dm (.int .i64) tv x]] (fun q Hq=>q=[.osl 1]∧Hq=[.var T [.dm (.int .i64) tv x],.sl 3 (.int .i64) r]):=by
 obtain ⟨k1,k2,rfl⟩:=skeys_some hr
 intro e w m ρ φ F vs hv ho hs
 obtain ⟨hd,fr,rfl,rfl,hor⟩:=ho.one
 obtain ⟨u,rfl,hu⟩:=zCG hv
 simp only [RepA] at hu
 obtain ⟨us,ws,rfl,hu1,hu2⟩:=hu
 cases us with
 | cons=>simp [RepL] at hu1
 | nil =>
 obtain ⟨p,rfl,hp⟩:=zCG hu2
 simp only [RepA] at hp
 obtain ⟨B,hB,rfl⟩:=hp
 have hB : hd=.pointer (some ⟨B,0,none⟩):=by simpa using hB
 subst hB
 obtain ⟨B',cs,e1,rfl,hc,hone⟩:=hor
 cases e1
 obtain ⟨c,rfl,hc1⟩:=zCG hc
 have hc : RC m (.map (.int .i64) tv) x [c]:=by simpa only [RepA] using hc1
 have hblk : w.heap[B]?=some (.cells #[c] T (0,0)):=hs.own (B,_) (by simp)
 have hBl : B < w.heap.size:=(Array.getElem?_eq_some_iff.1 hblk).1
 have hcell : w.cell? ⟨B,0,none⟩=some c:=zDR hblk (by simp)
 have hS : ∃ S : List Int→Prop,SortG g S B w∧∀ ss,S ss→ss.Perm (x.map (·.1)):=by
  rcases dm_cases hc with ⟨rfl,rfl⟩ | ⟨x',hpm,b,es,cl,rfl,hmb,hE⟩
  ·exact ⟨_,h0 B w hBl hcell,fun ss h=>by subst h; exact List.Perm.refl _⟩
  ·obtain ⟨D0,g1,g2,g3⟩:=owns_int (P:=Tryz.prog) (kT:=3) (by kernel_rfl) (hs.fz _ _ hmb) hE (fun p hp=>k1 p (hpm.mem_iff.1 hp)) (by rw [hpm.length_eq]; exact k2)
   exact ⟨_,h1 B b _ D0 w hBl hcell g1 (by rw [g2,hpm.length_eq]; exact k2),fun ss h=>(h.trans g3).trans (hpm.map _)⟩
 obtain ⟨S,hS1,hS2⟩:=hS
 refine Calls.mono hS1 ?_
 rintro e' w' ⟨v,ss,rfl,hss,hrow,hbl⟩
 have hpm:=hS2 ss hss
 have hso : (ss.mergeSort fun x y=>decide (x≤y))=zBT (x.map (·.1)):=by
  rw [isort_eq]; exact sorted_uniq ((zBw ss).trans (hpm.trans (zBw _).symm)) (isortI_sorted ss) (isortI_sorted _)
 have hln : (zBT (x.map (·.1))).length=ss.length:=by rw [(zBw _).length_eq,hpm.length_eq]
 have hlx : ss.length≤1000000000000:=by rw [hpm.length_eq,List.length_map]; exact k2
 rw [hso] at hrow
 have hdk : DK nox w w'∧w.heap.size≤w'.heap.size:=⟨DK.of_below hbl,hbl.size⟩
 have hrows : zBo m (.int .i64) (zBT (x.map (·.1))) ((zBT (x.map (·.1))).map (Value.int .i64)):=enc_rows (enc_int .i64) _
 obtain ⟨hz,⟨rfl,hn0⟩ | ⟨q,cap,cur,rfl,q1,q2,q3,q4,q5,q6⟩⟩:=hrow
 ·refine ⟨_,rfl,hdk,_,_,m,[.pointer (some ⟨B,0,none⟩),.slice none 0 0],[[(B,.cells #[c] T (0,0))],[]],⟨rfl,rfl⟩,Mem.le_refl _,fun i h hi=>?_,by simp,⟨rfl,rfl,fun i o u f hi hh hf=>?_⟩,by simpa using hs.ext hbl,[.slice none 0 0],?_,rfl⟩
  ·cases i with
   | zero=>simpa using hi
   | succ i=>simp at hi
  ·cases i with
   | zero=>simp at hi hh hf; subst hi hh hf; exact ⟨B,[c],rfl,rfl,by simp only [RepL,RepA]; exact ⟨hc,trivial⟩,hone⟩
   | succ i=>cases i with
    | zero=>simp at hi hh hf; subst hi hh hf; exact ⟨by rw [hln]; exact Nat.le_trans hlx (by decide),.inl ⟨List.eq_nil_of_length_eq_zero (by omega),rfl,rfl⟩⟩
    | succ i=>simp at hi
  ·simp only [RepL,RepA]; exact ⟨⟨rfl,rfl⟩,trivial⟩
 ·have hs2:=hs.addnew hbl q1 q2 rfl
  refine ⟨_,rfl,hdk,_,_,m,[.pointer (some ⟨B,0,none⟩),.slice (some ⟨q,0,none⟩) ss.length cap],[[(B,.cells #[c] T (0,0))],[(q,.cells cur 3 (0,0))]],⟨rfl,rfl⟩,Mem.le_refl _,fun i h hi=>?_,by simp,⟨rfl,rfl,fun i o u f hi hh hf=>?_⟩,hs2.perm ?_,[.slice (some ⟨q,0,none⟩) ss.length cap],?_,rfl⟩
  ·cases i with
   | zero=>simpa using hi
   | succ i=>simp at hi
  ·cases i with
   | zero=>simp at hi hh hf; subst hi hh hf; exact ⟨B,[c],rfl,rfl,by simp only [RepL,RepA]; exact ⟨hc,trivial⟩,hone⟩
   | succ i=>cases i with
    | zero =>
     simp at hi hh hf; subst hi hh hf
     exact ⟨by rw [hln]; exact Nat.le_trans hlx (by decide),.inr ⟨q,cap,cur,_,by rw [hln],rfl,by rw [hln]; exact q3,q4,by simpa [Ty.cells] using q5,hrows,by rw [hln]; exact q6⟩⟩
    | succ i=>simp at hi
  ·simp only [List.flatten_cons,List.flatten_nil,List.append_nil,List.singleton_append,List.cons_append,List.nil_append]
   exact List.Perm.swap _ _ _
  ·simp only [RepL,RepA]; exact ⟨⟨rfl,rfl⟩,trivial⟩
end Go.Ab
namespace Go.Ab
open Go.RowKit Go.Shelf Go.Proofs Go.Eng
theorem f34_runs {p0:Int}{r:Bool}(hr:f34 p0=some r) : zBb Tryz.prog 114 [.int .i32 p0] [.bool r]:=by
 refine zAW Tryz.func114 Tryz.ntmps114 rfl (rs:=[.tmp 2]) rfl rfl fun w0 X hX=>?_
 refine zDO ?_
 refine zDK ?_
 refine zDY (zDJ rfl) ?_
 refine zAJ (zAZ (zDO ?_))
 refine zAa [0] [(true,.int .i32 p0),(true,.bool (decide (p0≤32))),(true,.bool (decide (p0≤32))),(!(decide (p0≤32)),.int .i32 p0),(!(decide (p0≤32)),.bool (decide (126 < p0))),(true,.bool ((decide (p0≤32))||(decide (126 < p0)))),(true,.bool ((decide (p0≤32))||(decide (126 < p0))))] [[],[0],[1],[2],[3,2],[4,2],[5]] [6] rfl rfl rfl rfl rfl ⟨?_,?_,?_,?_,?_,?_,?_,trivial⟩ (zAD ⟨rfl,trivial⟩) ?_
 ·exact zAr rfl (fun hg=>zAD trivial) (fun hg=>zAg rfl)
 ·exact zAr rfl (fun hg=>zAD ⟨rfl,trivial⟩) (fun hg=>av_leq rfl rfl)
 ·exact zAr rfl (fun hg=>zAD ⟨rfl,trivial⟩) (fun hg=>zAg rfl)
 ·exact zAr ⟨rfl,rfl,rfl,_,rfl,rfl⟩ (fun hg=>zAD ⟨rfl,trivial⟩) (fun hg=>zAg rfl)
 ·exact zAr ⟨rfl,rfl,rfl,_,rfl,rfl⟩ (fun hg=>zAD ⟨hg,rfl,trivial⟩) (fun hg=>av_gtr rfl rfl)
 ·exact zBC (b:=false) (p:=decide (p0≤32)) (q:=decide (126 < p0)) rfl rfl rfl (fun hg=>zAD ⟨rfl,trivial⟩) rfl rfl rfl rfl rfl
 ·exact zAr rfl (fun hg=>zAD ⟨rfl,trivial⟩) (fun hg=>zDJ rfl)
 have hr:=Option.some.inj hr
 subst hr
 exact zAZ (zAw (zAk (l':=[(2,.bool ((decide (p0≤32))||(decide (126 < p0))))]) (zAA hX [] 4 rfl rfl ⟨⟨_,rfl,cv0⟩,trivial⟩ trivial) rfl ⟨rfl,trivial⟩))
theorem nonP_runs (x:Nat) : zBb Tryz.prog 114 [.int .i32 (x:Int)] [.bool (nonP x)]:=f34_runs rfl
theorem fWB_runs {p0_0:Str}{p1:Int}{r:Str}(hr:fWB p0_0 p1=some r) : Runs Tryz.prog 93 [.ptr 0 0,.int .u8 p1] [.bld 149 5 p0_0] (fun q Hq=>q=[.nili]∧Hq=[.bld 149 5 r]):=by
 unfold fWB at hr
 obtain ⟨h,hr⟩:=zAN hr
 have hr:=Option.some.inj hr
 subst hr
 simp only [Bool.and_eq_true,decide_eq_true_eq] at h
 exact bld_wb Tryz.laysWB Tryz.bxWB h.1.1 h.1.2 h.2
theorem fBS_runs {p0_0:Str}{r:Str}(hr:fBS p0_0=some r) : Runs Tryz.prog 94 [.ptr 0 0] [.bld 149 5 p0_0] (fun q Hq=>q=[.str r]∧Hq=[.dead]):=by
 obtain rfl : p0_0=r:=Option.some.inj hr
 exact bld_str Tryz.laysBS Tryz.bxBS
theorem fCmp_runs {a b:Str}{r:Int}(hr:fCmp a b=some r) : zBb Tryz.prog 50 [.str a,.str b] [.int .i64 r]:=by
 obtain rfl:=Option.some.inj hr
 refine runs_flat rfl rfl fun w=>?_
 refine Calls.mono (Any.strings_Compare Tryz.laysCmp (bstr a) (bstr b) w) ?_
 rintro e w' ⟨rfl,rfl⟩
 refine ⟨?_,Below.refl _ _⟩
 simp [bstr,zBg,flatV]
theorem fCF_runs {p0:Str}{r:Bool}(hr:fCF p0=some r) : zBb Tryz.prog 113 [.str p0,.fn 114 [] []] [.bool r]:=by
 obtain rfl:=Option.some.inj hr
 intro e w m ρ φ F vs hv ho hs
 match vs,hv with
 | [v,u],⟨hv1,hv2,_⟩ =>
  obtain rfl : v=.string (bstr p0):=hv1
  simp only [RepA] at hv2
  obtain ⟨us,ws,rfl,h1,h2⟩:=hv2
  cases us with
  | cons=>simp [RepL] at h1
  | nil=>cases ws with
   | cons=>simp [RepL] at h2
   | nil =>
    refine Calls.mono (Any.strings_ContainsFunc_grows Tryz.laysCF 114 #[] (enters_of Tryz.func114 (by kernel_rfl) rfl) nonP (bstr p0) w fun W x hx hb=>?_) ?_
    ·have:=law_calls (W:=W) (vs:=[.int .i32 (x:Int)]) (nonP_runs x) (by simp [RepL,RepA])
     refine Calls.mono this ?_
     rintro e' w' ⟨v,rfl,_,rfl,hb'⟩
     exact ⟨rfl,hb'⟩
    ·rintro ex w' ⟨rfl,hb⟩
     exact ⟨_,rfl,⟨DK.of_below hb,hb.size⟩,_,[],m,ρ,φ,⟨rfl,rfl⟩,Mem.le_refl _,fun _ _ h=>h,Nat.le_refl _,ho,hs.ext hb,[_],⟨rfl,trivial⟩,rfl⟩
theorem map_bstr (xs:List Str) : (xs.map bstr).map (fun b:ByteArray=>b.data.toList)=xs:=by
 induction xs with
 | nil=>rfl
 | cons x xs ih=>simp only [List.map_cons,ih]; simp [bstr]
theorem join_calls {m:Mem}{w:World}{xs:List Str}{sep:Str}{v:Value}(hfz:∀ b o,m b=some o→w.heap[b]?=some o) (h:RC m (.slice .str) xs [v]) (h1:xs.length≤140737488355328) (h2:(Lib.join xs sep).length≤140737488355328) :
  Calls Tryz.prog 73 #[v,.string (bstr sep)] w fun e w'=>e=.returned (.string (bstr (Lib.join xs sep)))∧Below w.heap.size w w':=by
 have hd : (bstr sep).data.toList=sep:=by simp [bstr]
 obtain ⟨A,n,c,hv,hl,hc,_,b,o,hA,hx⟩:=h
 obtain rfl:=List.cons.inj hv |>.1
 by_cases h0 : xs=[]
 ·subst h0
  obtain rfl : 0=n:=by simpa using hl
  refine Calls.mono (Any.strings_Join_none Tryz.laysJoin Tryz.bxJoin A c (bstr sep) w) ?_
  rintro e w' ⟨rfl,rfl⟩
  exact ⟨rfl,Below.refl _ _⟩
 ·have hp : 0 < n:=by rw [← hl]; exact List.length_pos_iff.2 h0
  obtain rfl:=hA hp
  have hcell : ∀ (i:Nat) y,xs[i]?=some y→∃ cs T fr,m b=some (.cells cs T fr)∧cs[o+i]?=some (.string (bstr y)):=by
   intro i y hy
   obtain ⟨us,hu,hcm⟩:=hx i y hy
   obtain rfl : us=[.string (bstr y)]:=hu
   simpa [Ty.cells] using hcm 0 _ rfl
  have e1 : n=(xs.map bstr).length:=by simp [hl]
  rw [e1]
  refine Calls.mono (Any.strings_Join Tryz.laysJoin Tryz.bxJoin b o c (xs.map bstr) (bstr sep) w ?_ ?_ (by simpa using h1) (by omega) (by rw [map_bstr,hd]; exact h2)) ?_
  ·intro j x hj
   rw [List.getElem?_map] at hj
   obtain ⟨y,hy,rfl⟩:=Option.map_eq_some_iff.1 hj
   obtain ⟨cs,T,fr,g1,g2⟩:=hcell j y hy
   simp [World.cell?,hfz _ _ g1,g2]
  ·obtain ⟨y,ys,rfl⟩:=List.exists_cons_of_ne_nil h0
   obtain ⟨cs,T,fr,g1,g2⟩:=hcell 0 y rfl
   exact (Array.getElem?_eq_some_iff.1 (hfz _ _ g1)).1
  ·rintro e w' ⟨rfl,hb⟩
   rw [map_bstr,hd]
   exact ⟨rfl,hb⟩
theorem fJoin_runs {s:List Str}{t:Str}{r:Str}(hr:fJoin s t=some r) : zBb Tryz.prog 73 [.sl .str s,.str t] [.str r]:=by
 unfold fJoin at hr
 obtain ⟨h,hr⟩:=zAN hr
 have hr:=Option.some.inj hr
 subst hr
 simp only [Bool.and_eq_true,Nat.ble_eq] at h
 intro e w m ρ φ F vs hv ho hs
 match vs,hv with
 | [v,u],⟨hv1,hv2,_⟩ =>
  obtain rfl : u=.string (bstr t):=hv2
  refine Calls.mono (join_calls hs.fz hv1 h.1 h.2) ?_
  rintro ex w' ⟨rfl,hb⟩
  exact ⟨_,rfl,⟨DK.of_below hb,hb.size⟩,_,[],m,ρ,φ,⟨rfl,rfl⟩,Mem.le_refl _,fun _ _ h=>h,Nat.le_refl _,ho,hs.ext hb,[_],⟨rfl,trivial⟩,rfl⟩
end Go.Ab
namespace Go.Ab
open Go.RowKit Go.Shelf Go.Proofs Go.Eng Go.Maps Go.Sort
instance : Inhabited (Ty.int .i64).den:=⟨(0:Int)⟩
theorem mcl {α:Type}{x r:List α}(h:zBs x=some r) : x=r:=Option.some.inj h
theorem ints_runs {p0_0:List Int}{r:List Int}(hr:sortI p0_0=some r) : Runs Tryz.prog 58 [.osl 0] [.sl 3 (.int .i64) p0_0] (fun q Hq=>q=[]∧Hq=[.sl 3 (.int .i64) r]):=by
 unfold sortI at hr
 obtain ⟨h,hr⟩:=zAN hr
 have hr:=Option.some.inj hr
 subst hr
 have hl : p0_0.length < 4611686018427387904:=by simpa using h
 rw [← isort_eq]
 exact runs_row (enc_int .i64) (by simp) (fun b cap w g1 g2 _=>Any.sort_Ints Tryz.laysInts b 0 cap p0_0 w g1 g2 hl) (fun w=>Any.sort_Ints_none Tryz.laysInts none 0 w)
theorem k57_runs {p0 r:List ((Ty.int .i64).den×Ty.den .bool)}(hr:zBs p0=some r) : Runs Tryz.prog 57 [.dm (.int .i64) .bool p0] [] (fun q Hq=>q=[.fn 81 [] [.ptr 0 0]]∧Hq=[.var 114 [.dm (.int .i64) .bool r]]):=by
 obtain rfl:=mcl hr
 exact runs_keys fun mb w=>(callsIn_wide (n:=5)).1 (AnyZI.keys_in Tryz.keys57 Fence.wide 5 trivial rfl mb w)
theorem k56_81_runs {p0:List ((Ty.int .i64).den×Ty.den .bool)}{r:List Int}(hr:skeys p0=some r) : Runs Tryz.prog 56 [.fn 81 [] [.ptr 0 0]] [.var 114 [.dm (.int .i64) .bool p0]] (fun q Hq=>q=[.osl 1]∧Hq=[.var 114 [.dm (.int .i64) .bool p0],.sl 3 (.int .i64) r]) :=
 runs_sorted hr (fun Bm b nn D0 w hB hm ho hn=>sortG (enters_of Tryz.func81 (by kernel_rfl) rfl) hn (AnyZI.keys_gives (ρ:=Tryz.keys57_ren) { Tryz.keys57 with } Fence.wide _ trivial rfl (by omega) Bm b nn D0 w hB hm ho)) (fun Bm w hB hm=>sortG (n:=0) (enters_of Tryz.func81 (by kernel_rfl) rfl) (by omega) (AnyZI.keys_gives_nil (ρ:=Tryz.keys57_ren) { Tryz.keys57 with } Fence.wide _ trivial rfl Bm w hB hm))
end Go.Ab
namespace Go.Ab
section
open Go.Eng
variable {P:Program} {N:Ev} {X:Cx} {Q:zBa} {st:AS} {c:Code}
theorem awc_nd {i:Nat}{tk tv:Ty}{x:List (tk.den×tv.den)}(hi:Nat.blt i st.n=true) (hH:st.H.get i=.map tk tv x) (k:(x.map (·.1)).Nodup→AWC P N X c Q st) : AWC P N X c Q st:=by
 intro fr w m ρ φ hc
 have hil : i < ρ.length:=by rw [hc.nρ]; simpa using hi
 obtain ⟨f,hf,ho,hw⟩:=hc.obj (List.getElem?_eq_getElem hil)
 rw [hH] at ho
 obtain ⟨x',hp,b,es,cl,_,_,_,h2,_⟩:=ho
 exact k ((hp.map _).nodup_iff.1 h2) fr w m ρ φ hc
end
def zC {α β:Type}(s:List (α×β)) : Prop:=(s.map (·.1)).Nodup
end Go.Ab
set_option maxHeartbeats 4000000
namespace Go.Ab
open Go.RowKit Go.Shelf Go.Proofs Go.Eng
abbrev YK : Ty:=.st (.pair .str .str)
theorem ts61k : TyS Tryz.prog 61 false 1:=⟨fun w=>by kernel_rfl,fun w=>by kernel_rfl⟩
theorem und61k : Und Tryz.prog 61 (.map 34 84):=by unfold Und; kernel_rfl
theorem zero34k : Eng.Zero Tryz.prog 34 (.agg #[.string ByteArray.empty,.string ByteArray.empty]):=fun w=>by kernel_rfl
theorem sz34k : Sz Tryz.prog 34 2:=fun w=>by kernel_rfl
theorem ts34k : TyS Tryz.prog 34 true 2:=⟨fun w=>by kernel_rfl,fun w=>by kernel_rfl⟩
theorem ret_iK {P:Program}{X:Cx}{k n:Nat}{st:AS}{l':AFr}{Hs:AH}{β:Type}{E:β→Mem→Frag→Prop}{K:β→Prop}{o:β}{Hc:List AO}(hK:K o) (h:Wk X st ⟨l',Hs,n⟩) (hH:(List.range n).map (AH.get Hs)=.guest (E o)::Hc) (hk:Nat.ble k n=true) : retW P X [] k (fun q Hq=>∃ o,K o∧q=[]∧∃ Hc,Hq=.guest (E o)::Hc) .ret st :=
 ⟨⟨l',Hs,n⟩,h,[],_,trivial,rfl,hk,o,hK,rfl,Hc,hH⟩
def kq {σ R α β:Type}(q:σ→α→Option (σ ⊕ R)) (s:σ) (p:α×β) : Option (σ ⊕ R):=q s p.1
theorem k89_iter {σ R:Type}{m0:Mem}{L:Nat}{G:σ→Mem→Frag→Prop}{Gx:R→Mem→Frag→Prop}{q:σ→(Str×Str)→Option (σ ⊕ R)}{s0:σ}{p1:List ((Str×Str)×zDL)}(ht:∀ l,l.Perm p1→∃ o,zBu (kq q) s0 l=some o)
  (hY:∀ (s:σ) (x:(Str×Str)) (s':σ),q s x=some (.inl s')→zDk Tryz.prog L [.agg [.str x.1,.str x.2]] true (G s) (G s')) (hYx:∀ (s:σ) (x:(Str×Str)) (r:R),q s x=some (.inr r)→zDk Tryz.prog L [.agg [.str x.1,.str x.2]] false (G s) (Gx r)) :
  RunsX m0 Tryz.prog 89 [.yld L,.ptr 1 0] [.guest (G s0),.var 61 [.dm YK (.raw ifN) p1]] (fun rs H'=>∃ o,(∃ l,l.Perm p1∧zBu (kq q) s0 l=some o)∧rs=[]∧∃ Hc,H'=.guest (Sum.elim G Gx o)::Hc):=by
 refine runs_wX Tryz.func89 Tryz.ntmps89 rfl (rs:=[]) rfl rfl fun w0 X ex hm hX hxe=>?_
 refine zDO ?_
 refine zDK ?_
 refine zDY (zAU ts61k rfl rfl rfl) ?_
 refine zAK (aop_range_dm und61k rfl (fun xs1 hp2=>?_))
 refine zAJ (zAZ (zDv ?_))
 refine zCi (S:=σ) (R:=R) (kq q) (fun p=>match p with | (l3,c4,s5)=>(⟨[(0,.yld L),(5,.map 2)],[(0,.guest (G s5)),(1,.var 61 [.dm YK (.raw ifN) p1]),(2,.mit YK (.raw ifN) l3 c4)],3⟩ : AS)) (fun o e st=>match o with | .inl s5=>e=.exit 0∧Wk X st ⟨[],[(0,.guest (G s5)),(1,.var 61 [.dm YK (.raw ifN) p1])],2⟩ | .inr s7=>e=.ret∧Wk X st ⟨[],[(0,.guest (Gx s7)),(1,.var 61 [.dm YK (.raw ifN) p1])],2⟩) (K:=fun r=>∃ l,l.Perm p1∧zBu (kq q) s0 l=some r) (fun l hl=>let ⟨o,ho⟩:=ht l hl; ⟨o,ho,l,hl,ho⟩) hp2 (zAA hX [0,1,2] 4 rfl rfl ⟨⟨_,rfl,cv0⟩,⟨_,rfl,cv0⟩,trivial⟩ ⟨zAL,zAL,zAL,trivial⟩) ?_ ?_
 ·intro r hq e st hx
  rcases r with s5 | s7
  ·obtain ⟨rfl,hw⟩:=hx
   exact zAl (zCz (ret_iK (E:=Sum.elim G Gx) (o:=.inl s5) (l':=[]) (Hs:=[(0,.guest (G s5)),(1,.var 61 [.dm YK (.raw ifN) p1])]) (n:=2) hq (Wk.trans hw (zAA hX [0,1] 4 rfl rfl trivial ⟨zAL,zAL,trivial⟩)) rfl rfl))
  ·obtain ⟨rfl,hw⟩:=hx
   exact zAE (ret_iK (E:=Sum.elim G Gx) (o:=.inr s7) (l':=[]) (Hs:=[(0,.guest (Gx s7)),(1,.var 61 [.dm YK (.raw ifN) p1])]) (n:=2) hq (Wk.trans hw (zAA hX [0,1] 4 rfl rfl trivial ⟨zAL,zAL,trivial⟩)) rfl rfl)
 ·rintro l3 c4 s5 K' hr
  refine zDO ?_
  refine zDK ?_
  refine zAK (aop_next_dm rfl rfl (fun h13=>?_) (fun q10 p11 hq12=>?_))
  ·have hk:=hr.1 h13
   refine zDY (zDA rfl rfl) ?_
   exact zAJ (zAZ (zDO (zA3 rfl (zAH (zAF (⟨_,hk,rfl,(zAA hX [0,1] 4 rfl rfl trivial ⟨zAL,zAL,trivial⟩)⟩))))))
  ·obtain ⟨o14,e15,hk⟩:=hr.2 q10 p11 hq12
   refine zDY (zDA rfl rfl) ?_
   refine zAJ (zAZ (zDO (zCZ rfl (zAv (zAZ (zDv (zDO ?_)))))))
   refine zDK ?_
   refine zDY (av_entry_dm rfl rfl rfl) ?_
   refine zDY (zDA rfl rfl) ?_
   refine zAK (zD zero34k rfl ?_)
   refine zAK (zDI sz34k rfl rfl rfl rfl rfl rfl rfl ?_)
   refine zAJ (zAZ (zDO ?_))
   refine zDK ?_
   refine zDY (zAg rfl) ?_
   refine zDY (zDG ts34k rfl rfl rfl rfl) ?_
   rcases o14 with s16 | r17
   ·refine zAK (aop_yield (i:=0) (b:=true) (as':=[.agg [.str p11.1.1,.str p11.1.2]]) rfl rfl rfl hxe rfl rfl (hY _ p11.1 _ e15) ?_)
    refine zDY (zDx rfl) ?_
    exact zAJ (zAZ (zA3 rfl (zAv (zAS (⟨_,hk (some p11),(zAA hX [0,1,2] 4 rfl rfl ⟨⟨_,rfl,cv0⟩,⟨_,rfl,cv0⟩,trivial⟩ ⟨zAL,zAL,zAL,trivial⟩)⟩)))))
   ·refine zAK (aop_yield (i:=0) (b:=false) (as':=[.agg [.str p11.1.1,.str p11.1.2]]) rfl rfl rfl hxe rfl rfl (hYx _ p11.1 _ e15) ?_)
    refine zDY (zDx rfl) ?_
    exact zAJ (zAZ (zCZ rfl (zAw (zAE (⟨_,hk,rfl,(zAA hX [0,1] 4 rfl rfl trivial ⟨zAL,zAL,trivial⟩)⟩)))))
theorem k69_runs {p0 r:List ((Str×Str)×zDL)}(hr:zBs p0=some r) : Runs Tryz.prog 69 [.dm YK (.raw ifN) p0] [] (fun q Hq=>q=[.fn 89 [] [.ptr 0 0]]∧Hq=[.var 61 [.dm YK (.raw ifN) r]]):=by
 obtain rfl:=mcl hr
 refine runs_keys fun mb w=>?_
 go_enter Tryz.func69,Tryz.ntmps69
 go_wp2
 all_goals (go_ret; exact ⟨rfl,rfl⟩)
theorem ts23k : TyS Tryz.prog 23 false 1:=⟨fun w=>by kernel_rfl,fun w=>by kernel_rfl⟩
theorem bs23k : BuildS Tryz.prog 23 34 YK:=zCh (z:=.agg #[.string ByteArray.empty,.string ByteArray.empty]) (by kernel_rfl) (by kernel_rfl) rfl
theorem app23k : AppT Tryz.prog 23 34 (Ty.cells YK) 32:=appT_of (z:=.agg #[.string ByteArray.empty,.string ByteArray.empty]) (by kernel_rfl) (by kernel_rfl) rfl rfl
theorem sz23k : Sz Tryz.prog 23 1:=fun w=>by kernel_rfl
theorem ent89k : Enters Tryz.prog 89:=enters_of Tryz.func89 (by kernel_rfl) rfl
theorem ent115k : Enters Tryz.prog 115:=enters_of Tryz.func115 (by kernel_rfl) rfl
theorem ent87k : Enters Tryz.prog 87:=enters_of Tryz.func87 (by kernel_rfl) rfl
theorem ent88k : Enters Tryz.prog 88:=enters_of Tryz.func88 (by kernel_rfl) rfl
theorem retW_ex {P:Program}{X:Cx}{rs:List ResultVar}{k:Nat}{st:AS}{β:Type}{Rf:β→List AV→List AO→Prop}{K:β→Prop}{l:β}(hK:K l) (h:retW P X rs k (Rf l) .ret st) : retW P X rs k (fun q Hq=>∃ l,K l∧Rf l q Hq) .ret st:=by
 obtain ⟨st',h1,as',H',h2,h3,h4,h5⟩:=h
 exact ⟨st',h1,as',H',h2,h3,h4,l,hK,h5⟩
section
variable {P:Program} {N:Ev} {X:Cx} {Q:zBa} {st:AS}
variable {d:Nat} {T T' U:TypeId} {pos:String} {aft:Array Edge} {g:Option (Nat×Bool)} {x y:Operand}
theorem aop_callOE {β:Type}{C:β→Prop}{f:FuncId}{xs:List Operand}{as1 as':List AV}{rs:β→List AV}{H1:List AO}{H':β→List AO}{σ:List Nat}{ts:Array TypeId}{K:AS→Prop}(hr:RunsM X.m P f as1 H1 fun q Hq=>∃ l,C l∧q=rs l∧Hq=H' l) (hf:Enters P f) (hx:xs.map (aev st.l)=as'.map some) (hcv:cvL (renL σ as1) as') (hσ:(zCn σ&&σ.all fun i=>Nat.blt i st.n)=true) (hH:σ.map st.H.get=H1.map (AO.ren σ))
  (k:∀ l,C l→K ⟨(d,tupA (renL (σ++zCD st.n ((H' l).length - σ.length)) (rs l)))::st.l,updH 0 (σ++zCD st.n ((H' l).length - σ.length)) ((H' l).map (AO.ren (σ++zCD st.n ((H' l).length - σ.length)))) st.H,st.n+((H' l).length - σ.length)⟩) (hN:Nat.blt d N.n=true:=by rfl) :
  AOp P N X ⟨some d,.call ⟨.value (.func f),xs.toArray,ts⟩,U,pos,aft,g⟩ K st :=
 zBH fun Q fr w m ρ φ hc K' hK=>by
  obtain ⟨vs,h1,h2⟩:=hc.evl hx
  have hσ':=hσ
  rw [Bool.and_eq_true] at hσ'
  refine zDf hf h1 (ret_own hr hc hσ hH (cvL_rep hcv h2)) hN ?_
  rintro v w' ⟨rs',H'',m',ρ1',φ1',⟨l,hl,rfl,rfl⟩,g1,g2,g3,g4,g5,us,g6,rfl⟩
  obtain ⟨ρ',φ',hcc⟩:=conc_call (d:=d) (av:=tupA (renL (σ++zCD st.n ((H' l).length - σ.length)) (rs l))) (v:=zBg us) hc (zCS hσ'.1) (fun i hi=>by have:=hσ'.2; rw [List.all_eq_true] at this; simpa using this i hi) g1 g2 g3 g4 g5 (fun ρ' hb=>zBM (zCH hb _ g6))
  exact hK _ _ _ _ _ _ hcc (k l hl)
end
def kb (s:List (Str×Str)) (y:Str×Str) : Option (List (Str×Str) ⊕ Unit):=bif apOk 32 (List.length s+List.length [y]) then some (.inl (s++[y])) else none
theorem kb_fold : ∀ (l:List ((Str×Str)×zDL)) (s:List (Str×Str)),s.length+l.length≤1000000000→zBu (kq kb) s l=some (.inl (s++l.map (·.1))):=by
 intro l
 induction l with
 | nil=>intro s _; simp [zBu]
 | cons p l ih =>
  intro s h
  simp only [List.length_cons] at h
  have ha : apOk 32 (List.length s+List.length [p.1])=true:=zBf (by simp; omega)
  simp only [zBu,kq,kb,ha,cond_true,Option.bind_some]
  rw [ih _ (by simp; omega)]; simp
abbrev KP (p0:List ((Str×Str)×zDL)) (l:List (Str×Str)) : Prop:=l.Perm (p0.map (·.1))
theorem k115_runs {p0:List ((Str×Str)×zDL)}(hl:p0.length≤1000000000) : Runs Tryz.prog 115 [.nils,.fn 89 [] [.ptr 0 0]] [.var 61 [.dm YK (.raw ifN) p0]] (fun q Hq=>∃ l,KP p0 l∧q=[.osl 1]∧Hq=[.dead,.sl 34 YK l]):=by
 refine runs_wM Tryz.func115 Tryz.ntmps115 rfl (rs:=[.tmp 4]) rfl rfl rfl fun w0 X hX hxe=>?_
 refine zDO ?_
 refine zDK ?_
 refine zAK (aop_box rfl rfl ?_)
 refine zDY (zDJ rfl) ?_
 refine zAJ (zAZ (zDO (zDO ?_)))
 refine zDK ?_
 refine zDY (zAg rfl) ?_
 refine zAJ (zAZ (zDv ?_))
 refine zAY (st':=⟨[(2,.ptr 1 0),(4,.nils),(6,.fn 89 [] [.ptr 0 0])],[(0,.var 61 [.dm YK (.raw ifN) p0]),(1,.var 23 [.osl 2]),(2,.sl 34 YK ([] : List (Str×Str)))],3⟩) (Wk.trans (wk_ownC (i:=1) (o:=0) 34 YK rfl rfl rfl) (zAA hX [0,1,2] 4 rfl rfl ⟨⟨_,rfl,cv0⟩,⟨_,rfl,cv0⟩,⟨_,rfl,cv0⟩,trivial⟩ ⟨zAL,zAL,zAL,trivial⟩)) (awc_rangeXK (σ:=(List (Str×Str))) (α:=(Str×Str)) (R:=Unit) (s0:=([] : List (Str×Str))) (K:=fun o=>∃ l,l.Perm p0∧zBu (kq kb) [] l=some o) [.ptr 1 0] [.var 61 [.dm YK (.raw ifN) p0]] 2 (kb) (fun x=>[.agg [.str x.1,.str x.2]]) [(2,.ptr 1 0),(4,.nils),(6,.fn 89 [] [.ptr 0 0])] (fun p=>match p with | s3=>([(0,.dead),(1,.var 23 [.osl 2]),(2,.sl 34 YK s3)] : AH)) (fun _=>[]) (fun _=>.ret) 3 (fun _=>0) [0] rfl rfl hxe rfl ent89k rfl rfl (fun _=>rfl) rfl (by rw [hX]; rfl) rfl rfl rfl rfl (fun L G Gx hY hYx=>k89_iter (q:=kb) (fun l h=>⟨_,kb_fold l [] (by have:=h.length_eq; simp; omega)⟩) hY hYx) ?_ (fun r=>rfl) ?_ ?_)
 ·intro w0 L X ex hm hX hxe
  rintro s3 y8 s' hr
  refine zDK ?_
  refine zAK (zD zero34k rfl ?_)
  refine zAK (zDI sz34k rfl rfl rfl rfl rfl rfl rfl ?_)
  refine zAJ (ranged ?_)
  intro w0 X ex hm hX hxe
  refine zDv ?_
  refine zDK ?_
  refine zDY (zAU ts23k rfl rfl rfl) ?_
  refine zDY (zDG ts34k rfl rfl rfl rfl) ?_
  refine zDY (zAM (t:=YK) (qs:=[(0,[.str y8.1,.str y8.2])]) (ys:=[y8]) bs23k rfl rfl rfl rfl rfl rfl rfl rfl) ?_
  obtain ⟨h9,hr⟩:=zAN hr
  refine zAK (zAh rfl rfl app23k rfl rfl rfl h9 rfl ?_)
  refine zAK (zDI sz23k rfl rfl rfl rfl rfl rfl rfl ?_)
  have hr:=Option.some.inj hr
  subst hr
  exact zAJ (zAS (⟨rfl,(zAA hX [0,1,4] 4 rfl rfl trivial ⟨zAL,zAL,zAL,trivial⟩)⟩))
 ·rintro s3 ⟨l,hp,e⟩
  rw [kb_fold l [] (by have:=hp.length_eq; simp; omega)] at e
  cases e
  refine zAS (zAZ (zDO ?_))
  refine zDK ?_
  refine zDY (zAU ts23k rfl rfl rfl) ?_
  refine zDY (zDJ rfl) ?_
  exact zAJ (zAZ (zAw (retW_ex (l:=[]++l.map (·.1)) (by simpa using hp.map (·.1)) (zAe (l':=[(4,.osl 1)]) (Hs:=[(0,.dead),(1,.sl 34 YK ([]++l.map (·.1)))]) (n:=2) (zAA hX [0,2] 4 rfl rfl ⟨⟨_,rfl,cv0⟩,trivial⟩ ⟨zAL,zAL,trivial⟩) rfl rfl rfl ⟨rfl,trivial⟩))))
 ·rintro r ⟨l,hp,e⟩
  rw [kb_fold l [] (by have:=hp.length_eq; simp; omega)] at e
  cases e
theorem k87_runs {p0:List ((Str×Str)×zDL)}(hl:p0.length≤1000000000) : Runs Tryz.prog 87 [.fn 89 [] [.ptr 0 0]] [.var 61 [.dm YK (.raw ifN) p0]] (fun q Hq=>∃ l,KP p0 l∧q=[.osl 1]∧Hq=[.dead,.sl 34 YK l]):=by
 refine zAW Tryz.func87 Tryz.ntmps87 rfl (rs:=[.tmp 2]) rfl rfl fun w0 X hX=>?_
 refine zDO ?_
 refine zDK ?_
 refine zDY (zDJ rfl) ?_
 refine zAJ (zAZ (zDO ?_))
 refine zDK ?_
 refine zDY (zAg rfl) ?_
 refine zAK (aop_callOE (σ:=[0]) (as':=[.nils,.fn 89 [] [.ptr 0 0]]) (C:=KP p0) (rs:=fun _=>[.osl 1]) (H':=fun l=>[.dead,.sl 34 YK l]) (k115_runs hl).x ent115k rfl ⟨cv0,cv0,trivial⟩ rfl rfl (fun l hp=>?_))
 refine zDY (zDJ rfl) ?_
 exact zAJ (zAZ (zAw (retW_ex (l:=l) hp (zAe (l':=[(2,.osl 1)]) (Hs:=[(0,.dead),(1,.sl 34 YK l)]) (n:=2) (zAA hX [0,1] 4 rfl rfl ⟨⟨_,rfl,cv0⟩,trivial⟩ ⟨zAL,zAL,trivial⟩) rfl rfl rfl ⟨rfl,trivial⟩))))
end Go.Ab
namespace Go.Proofs
open Go.Shelf Go.RowKit Go.Lib Go.Sort
variable {P:Program} {ρ:Ren}
def Bd (w w':World) : Prop:=Below w.heap.size w w'∧w.drawn≤w'.drawn
theorem Bd.grown {w w':World}(h:Bd w w') : ∃ q os,w'=grow (w.drewN q) os:=by
 obtain ⟨p,hp⟩:=regrown_of_below h.1
 refine ⟨p.d - w.drawn,p.os,?_⟩
 have hd : w.drawn≤p.d:=by have:=h.2; rw [hp] at this; exact this
 rw [hp]
 unfold grow redrawn World.drewN
 have : w.drawn+(p.d - w.drawn)=p.d:=by omega
 simp [this]
theorem Bd.refl (w:World) : Bd w w:=⟨Below.refl _ _,Nat.le_refl _⟩
theorem Bd.trans {a b c:World}(h:Bd a b) (k:Bd b c) : Bd a c:=⟨h.1.trans (k.1.mono h.1.size),Nat.le_trans h.2 k.2⟩
set_option maxHeartbeats 2000000 in
set_option maxRecDepth 1000000 in
theorem indexFunc_d (L:Lays.n315 P ρ) (g:Nat) (lb:Array Value) (eg:∀ args w,(callFunc g args).run P w=.ok (.enter g args) w) (p:Nat→Bool) (truth:Bool) (s:ByteArray) (w:World) (hp:PredAt P g lb encR p w) :
  Calls P (ρ.f 315) #[.string s,.func (.func g) #[] lb,.bool truth] w fun e w'=>e=.returned (.int .i64 (Lib.idxFunc p truth s))∧Bd w w':=by
 have t0:=L.t0; have a0:=L.a0; have z0:=L.z0; have v0:=L.v0; have t3:=L.t3; have a3:=L.a3; have z3:=L.z3; have v3:=L.v3; have t4:=L.t4; have a4:=L.a4; have z4:=L.z4; have v4:=L.v4; have t9:=L.t9; have a9:=L.a9; have z9:=L.z9; have v9:=L.v9; have t21:=L.t21; have a21:=L.a21; have z21:=L.z21; have v21:=L.v21; have t40:=L.t40; have a40:=L.a40; have z40:=L.z40; have v40:=L.v40
 go_enter L.f315,Body.n315_ntmps ρ
 go_wp2
 go_loopg [] s.size (fun gf wx=>∃ pos : Nat,wx.heap[w.heap.size]?=some (.stringIter s pos)∧Below w.heap.size w wx∧w.drawn≤wx.drawn∧Lib.idxFuncFrom p truth s gf pos=Lib.idxFunc p truth s∧s.size≤pos+gf)
 case atStart=>exact ⟨0,World.iter_heap w s 0,(Below.refl _ w).alloc (Nat.le_refl _) _,Nat.le_refl _,rfl,by omega⟩
 case round =>
  obtain ⟨pos,hit,hbw,hdr,hleft,hfu⟩:=hrel
  by_cases hps : pos < s.size
  ·obtain ⟨g',rfl⟩ : ∃ g',gk=g'+1:=⟨gk - 1,by omega⟩
   have hnx : ∀ ty,(Instr.next (.pointer (some ⟨w.heap.size,0,none⟩)) true ty).run P wr=_:=fun ty=>Lib.run_next_any_at wr w.heap.size s pos ty hit hps
   have hwd:=Lib.width_pos s pos
   obtain ⟨R,hR⟩ : ∃ R,(Utf8.decode s pos).1=R:=⟨_,rfl⟩
   obtain ⟨K,hK⟩ : ∃ K,(Utf8.decode s pos).2=K:=⟨_,rfl⟩
   simp only [Lib.idxFuncFrom,hps,if_true,hR,hK] at hleft
   rw [hR,hK] at hnx
   rw [hK] at hwd
   have hit2:=Lib.iterAt_heap wr w.heap.size s pos (pos+K) hit
   have hbw2:=Lib.below_iterAt hbw (k:=w.heap.size) (Nat.le_refl _) s (pos+K)
   have hdr2 : w.drawn≤(wr.iterAt w.heap.size s (pos+K)).drawn:=hdr
   obtain ⟨W,hWd⟩ : ∃ W,wr.iterAt w.heap.size s (pos+K)=W:=⟨_,rfl⟩
   rw [hWd] at hnx hit2 hbw2 hdr2
   have cS : Calls P g (#[.int .i32 (R:Int)]++lb) W _:=hp W R hbw2
   have hdq : ∀ q,w.drawn≤(W.drewN q).drawn:=fun q=>Nat.le_trans hdr2 (Nat.le_add_right _ _)
   clear hp
   cases hsp : p R <;> cases truth <;> rw [hsp] at cS <;> simp only [hsp,if_true,Bool.false_eq_true,Bool.true_eq_false,if_false] at hleft
   ·go_wp2_with (go_at_fn g; refine cS.mono ?_; rintro e W' ⟨rfl,q,rfl⟩)
    go_ret
    exact ⟨by rw [← hleft] <;> rfl,below_drewN' hbw2 q,hdq q⟩
   ·go_wp2_with (go_at_fn g; refine cS.mono ?_; rintro e W' ⟨rfl,q,rfl⟩)
    go_roundg g'
    case measure=>omega
    case rel=>exact ⟨pos+K,hit2,below_drewN' hbw2 q,hdq q,hleft,by omega⟩
   ·go_wp2_with (go_at_fn g; refine cS.mono ?_; rintro e W' ⟨rfl,q,rfl⟩)
    go_roundg g'
    case measure=>omega
    case rel=>exact ⟨pos+K,hit2,below_drewN' hbw2 q,hdq q,hleft,by omega⟩
   ·go_wp2_with (go_at_fn g; refine cS.mono ?_; rintro e W' ⟨rfl,q,rfl⟩)
    go_ret
    exact ⟨by rw [← hleft] <;> rfl,below_drewN' hbw2 q,hdq q⟩
  ·have hnx : ∀ ty,(Instr.next (.pointer (some ⟨w.heap.size,0,none⟩)) true ty).run P wr=_:=fun ty=>Lib.run_next_end_at wr w.heap.size s pos ty hit hps
   rw [Lib.idxFuncFrom_end p truth s gk pos hps] at hleft
   go_wp2
   go_ret
   exact ⟨by rw [← hleft] <;> rfl,hbw,hdr⟩
set_option maxHeartbeats 1000000 in
theorem IndexFunc_d (L:LaysGw.n15 P ρ) (g:Nat) (lb:Array Value) (eg:∀ args w,(callFunc g args).run P w=.ok (.enter g args) w) (p:Nat→Bool) (s:ByteArray) (w:World) (hp:PredAt P g lb encR p w) :
  Calls P (ρ.f 15) #[.string s,.func (.func g) #[] lb] w fun e w'=>e=.returned (.int .i64 (Lib.idxFunc p true s))∧Bd w w':=by
 have mixed:=L.mixed; have t0:=L.t0; have a0:=L.a0; have z0:=L.z0; have v0:=L.v0; have t3:=L.t3; have a3:=L.a3; have z3:=L.z3; have v3:=L.v3; have t4:=L.t4; have a4:=L.a4; have z4:=L.z4; have v4:=L.v4; have t9:=L.t9; have a9:=L.a9; have z9:=L.z9; have v9:=L.v9; have t21:=L.t21; have a21:=L.a21; have z21:=L.z21; have v21:=L.v21; have t23:=L.t23; have a23:=L.a23; have z23:=L.z23; have v23:=L.v23
 have cI:=indexFunc_d (({ L with } : LaysGw.n20 P ρ).elder) g lb eg p true s w hp
 change Calls P (ρ.f 20) _ _ _ at cI
 have e20 : ∀ args w,(callFunc (ρ.f 20) args).run P w=.ok (.enter (ρ.f 20) args) w:=enters_of L.f20 (by kernel_rfl) rfl
 go_enter L.f15,BodyGw.n15_ntmps ρ
 go_wp2_with (go_at_fn (ρ.f 20); refine cI.mono ?_; rintro e w' ⟨rfl,hb⟩)
 go_ret
 exact ⟨rfl,hb⟩
set_option maxHeartbeats 1000000 in
theorem ContainsFunc_d (L:LaysGw.n17 P ρ) (g:Nat) (lb:Array Value) (eg:∀ args w,(callFunc g args).run P w=.ok (.enter g args) w) (p:Nat→Bool) (s:ByteArray) (w:World) (hp:PredAt P g lb encR p w) :
  Calls P (ρ.f 17) #[.string s,.func (.func g) #[] lb] w fun e w'=>e=.returned (.bool (decide (0≤Lib.idxFunc p true s)))∧Bd w w':=by
 have mixed:=L.mixed; have t0:=L.t0; have a0:=L.a0; have z0:=L.z0; have v0:=L.v0; have t3:=L.t3; have a3:=L.a3; have z3:=L.z3; have v3:=L.v3; have t4:=L.t4; have a4:=L.a4; have z4:=L.z4; have v4:=L.v4; have t9:=L.t9; have a9:=L.a9; have z9:=L.z9; have v9:=L.v9; have t21:=L.t21; have a21:=L.a21; have z21:=L.z21; have v21:=L.v21; have t23:=L.t23; have a23:=L.a23; have z23:=L.z23; have v23:=L.v23
 have cI:=IndexFunc_d (P:=P) (ρ:=ρ) { L with } g lb eg p s w hp
 have e15 : ∀ args w,(callFunc (ρ.f 15) args).run P w=.ok (.enter (ρ.f 15) args) w:=enters_of L.f15 (by kernel_rfl) rfl
 obtain ⟨I,hI⟩ : ∃ I,Lib.idxFunc p true s=I:=⟨_,rfl⟩
 rw [hI] at cI ⊢
 go_enter L.f17,BodyGw.n17_ntmps ρ
 go_wp2_with (go_at_fn (ρ.f 15); refine cI.mono ?_; rintro e w' ⟨rfl,hb⟩)
 go_ret
 exact ⟨rfl,hb⟩
end Go.Proofs
namespace Go.Ab
open Go.RowKit Go.Shelf Go.Proofs Go.Eng Go.Sort
theorem closure114 (x:Nat) (W:World) : FnGives Tryz.prog 114 #[] #[encR x] (.bool (nonP x)) W:=by
 unfold FnGives nonP
 go_enter Tryz.func114,Tryz.ntmps114
 go_wp2
 all_goals (go_ret; exact ⟨by simp,0,rfl⟩)
def cfS (s:ByteArray) : Bool:=decide (0≤Lib.idxFunc nonP true s)
theorem cont113 (s:ByteArray) (w:World) : Calls Tryz.prog 113 #[.string s,.func (.func 114) #[] #[]] w fun e w'=>e=.returned (.bool (cfS s))∧Bd w w' :=
 ContainsFunc_d Tryz.laysCF 114 #[] (enters_of Tryz.func114 (by kernel_rfl) rfl) nonP s w (fun W x hb=>closure114 x W)
def segB (s:ByteArray) : Bool:=decide (32 < (s.size : Int))||cfS s
def partB (a b:ByteArray) : Bool:=!(segB a)&&!(segB b)&&!(decide (a=ByteArray.empty)&&decide (b=ByteArray.empty))
theorem emp_iff (s:ByteArray) : s.toList=[]↔s=ByteArray.empty:=by
 have h:=bytes_beq s ByteArray.empty
 have e : ByteArray.empty.toList=[]:=by simp [ByteArray.toList,ByteArray.toList.loop]
 rw [e] at h
 constructor
 ·intro k; rw [k] at h; exact of_decide_eq_true (h.symm.trans (by rfl))
 ·intro k; have : (s.toList == [])=true:=by rw [h]; exact decide_eq_true k
  exact eq_of_beq this
theorem ix0 (a b:ByteArray) (W:World) : (Instr.index 174 (.agg #[.string a,.string b]) (.int .i64 0)).run Tryz.prog W=.ok (.string a) W:=by kernel_rfl
theorem ix1 (a b:ByteArray) (W:World) : (Instr.index 174 (.agg #[.string a,.string b]) (.int .i64 1)).run Tryz.prog W=.ok (.string b) W:=by kernel_rfl
set_option maxHeartbeats 4000000 in
set_option maxRecDepth 1000000 in
theorem part84 (a b:ByteArray) (w:World) : Calls Tryz.prog 84 #[.agg #[.string a,.string b]] w fun e w'=>e=.returned (.bool (partB a b))∧Bd w w':=by
 obtain ⟨fs,hfs⟩ : ∃ fs : Nat→ByteArray,fs=fun i=>if i=0 then a else b:=⟨_,rfl⟩
 go_enter Tryz.func84,Tryz.ntmps84
 go_wp2
 go_loopg [10] 2 (fun k s10 wr=>Bd (w.alloc (.cells #[.string a,.string b] 34)) wr∧((s10=.int .i64 0∧k=2)∨(s10=.int .i64 1∧k=1∧segB a=false)∨(s10=.int .i64 2∧k=0∧segB a=false∧segB b=false)))
 case atStart=>exact ⟨Bd.refl _,.inl ⟨rfl,rfl⟩⟩
 case round =>
  obtain ⟨hbw,⟨rfl,rfl⟩ | ⟨rfl,rfl,h1⟩ | ⟨rfl,rfl,h1,h2⟩⟩:=hrel
  ·have cC:=cont113 a wr
   have hix:=ix0 a b wr
   go_wp2_with fail
   ·have hsz : (a.size : Int)≤32:=by first | assumption | omega
    refine cC.mono ?_
    rintro e W' ⟨rfl,hq⟩
    cases hcf : cfS a
    ·have hsg : segB a=false:=by unfold segB; rw [hcf]; simp; omega
     go_wp2
     go_roundg 1
     case measure=>omega
     case rel=>exact ⟨hbw.trans hq,.inr (.inl ⟨rfl,rfl,hsg⟩)⟩
    ·go_wp2
     go_ret
     exact ⟨by simp [partB,segB,hcf],(Bd.trans ⟨(Below.refl _ _).alloc (Nat.le_refl _) _,Nat.le_refl _⟩ (hbw.trans hq))⟩
   ·have hsz : 32 < (a.size : Int):=by first | assumption | omega
    go_ret
    exact ⟨by simp [partB,segB,hsz],(Bd.trans ⟨(Below.refl _ _).alloc (Nat.le_refl _) _,Nat.le_refl _⟩ hbw)⟩
  ·have cC:=cont113 b wr
   have hix:=ix1 a b wr
   go_wp2_with fail
   ·have hsz : (b.size : Int)≤32:=by first | assumption | omega
    refine cC.mono ?_
    rintro e W' ⟨rfl,hq⟩
    cases hcf : cfS b
    ·have hsg : segB b=false:=by unfold segB; rw [hcf]; simp; omega
     go_wp2
     go_roundg 0
     case measure=>omega
     case rel=>exact ⟨hbw.trans hq,.inr (.inr ⟨rfl,rfl,h1,hsg⟩)⟩
    ·go_wp2
     go_ret
     exact ⟨by simp [partB,segB,hcf],(Bd.trans ⟨(Below.refl _ _).alloc (Nat.le_refl _) _,Nat.le_refl _⟩ (hbw.trans hq))⟩
   ·have hsz : 32 < (b.size : Int):=by first | assumption | omega
    go_ret
    exact ⟨by simp [partB,segB,hsz],(Bd.trans ⟨(Below.refl _ _).alloc (Nat.le_refl _) _,Nat.le_refl _⟩ hbw)⟩
  ·have hc : ∀ i v,(#[Value.string a,Value.string b] : Array Value)[i]?=some v→wr.cell? ⟨w.heap.size,i,none⟩=some v:=fun i v hv=>by
    have hb0 : wr.heap[w.heap.size]?=some (.cells #[.string a,.string b] 34 (0,0)):=by
     rw [hbw.1.block _ (by simp)]; exact World.alloc_heap_new w _
    simp [World.cell?,hb0,hv]
   have hbd:=(Bd.trans ⟨(Below.refl _ _).alloc (Nat.le_refl _) (.cells #[.string a,.string b] 34),Nat.le_refl _⟩ hbw : Bd w wr)
   have hp : partB a b=!(decide (a=ByteArray.empty)&&decide (b=ByteArray.empty)):=by simp [partB,h1,h2]
   clear h1 h2 hfs
   go_wp2
   all_goals (go_ret; refine ⟨?_,hbd⟩; rw [hp]; simp_all [emp_iff])
end Go.Ab
namespace Go.Ab
open Go.RowKit Go.Shelf Go.Proofs Go.Eng Go.Sort
set_option maxHeartbeats 4000000 in
set_option maxRecDepth 1000000 in
theorem or117 (x y:Int) (B cap:Nat) (w:World) (h0:w.cell? ⟨B,0,none⟩=some (.int .i64 x)) (h1:w.cell? ⟨B,1,none⟩=some (.int .i64 y)) : Calls Tryz.prog 117 #[.slice (some ⟨B,0,none⟩) 2 cap] w fun e w'=>e=.returned (.int .i64 (if x=0 then y else x))∧Bd w w':=by
 obtain ⟨r,hr⟩ : ∃ r,(if x=0 then y else x)=r:=⟨_,rfl⟩
 rw [hr]
 go_enter Tryz.func117,Tryz.ntmps117
 go_wp2
 go_loopg [8] 2 (fun k s8 wr=>wr=w∧((s8=.int .i64 0∧k=2)∨(s8=.int .i64 1∧k=1∧x=0)∨(s8=.int .i64 2∧k=0∧x=0∧y=0)))
 case atStart=>exact ⟨rfl,.inl ⟨rfl,rfl⟩⟩
 case round =>
  obtain ⟨rfl,⟨rfl,rfl⟩ | ⟨rfl,rfl,hx⟩ | ⟨rfl,rfl,hx,hy⟩⟩:=hrel
  ·go_wp2
   ·go_ret
    rename_i hn
    have hn : x≠0:=by simpa using hn
    exact ⟨by rw [← hr,if_neg hn]; rfl,Bd.refl _⟩
   ·rename_i hn
    have hn : x=0:=by simpa using hn
    go_roundg 1
    case measure=>omega
    case rel=>exact ⟨rfl,.inr (.inl ⟨rfl,rfl,hn⟩)⟩
  ·rw [if_pos hx] at hr
   subst hr
   go_wp2
   ·go_ret
    exact ⟨rfl,Bd.refl _⟩
   ·rename_i hn
    have hn : y=0:=by simpa using hn
    go_roundg 0
    case measure=>omega
    case rel=>exact ⟨rfl,.inr (.inr ⟨rfl,rfl,hx,hn⟩)⟩
  ·rw [if_pos hx] at hr
   subst hr hy
   go_wp2
   go_ret
   exact ⟨rfl,Bd.refl _⟩
end Go.Ab
namespace Go.Ab
open Go.RowKit Go.Shelf Go.Proofs Go.Eng Go.Sort
theorem sr_bd : SR Bd:=⟨Bd.refl,fun a b c h k=>h.trans k,fun w W h=>⟨below_of_drawn h.1,Nat.le_trans (Nat.le_succ _) h.2⟩⟩
section
variable {P:Program} {N:Ev} {Q:Post} {l:Fr} {w:World} {K:Fr→World→Prop}
variable {d:Nat} {T U:TypeId} {pos:String} {aft:Array Edge} {g:Option (Nat×Bool)} {x:Operand}
theorem bd_push (w:World) (o:Obj) : Bd w { w with heap:=w.heap.push o }:=⟨(zBh w o).ext,Nat.le_refl _⟩
theorem op_boxD {v:Value}(hx:evo l x=some v) (hN:Nat.blt d N.n=true) (k:∀ w' b,New w w' b (.cells v.cells T)→Bd w w'→K ((d,.pointer (some ⟨b,0,none⟩))::l) w') :
  OpW P N ⟨some d,.box T x,U,pos,aft,g⟩ K Q l w :=
 zAo rfl hN (fun s hs=>by simp [execOp,hs.eval hx,Instr.box,newVar,run_newRow]) (k _ _ (zBh w _) (bd_push w _)) (dk_new (zBh w _))
theorem op_buildSliceD {n e:Nat}{ps:List (Nat×Operand)}{vs:List (Nat×Value)}{cs:Array Value}(hx:evos l ps=some vs)
  (hr:∀ w,(Instr.buildSlice T n vs.toArray).run P w=.ok (.slice (some ⟨w.heap.size,0,none⟩) n n) { w with heap:=w.heap.push (.cells cs e) }) (hN:Nat.blt d N.n=true)
  (k:∀ w' b,New w w' b (.cells cs e)→Bd w w'→K ((d,.slice (some ⟨b,0,none⟩) n n)::l) w') :
  OpW P N ⟨some d,.buildSlice T n ps.toArray,U,pos,aft,g⟩ K Q l w:=by
 refine zAo rfl hN (fun s hs=>?_) (k _ _ (zBh w _) (bd_push w _)) (dk_new (zBh w _))
 have e:=evos_eval hs hx
 simp only [execOp,List.map_toArray,Sem.run_bind]
 rw [show (List.map (fun (x:Nat×Operand)=>match x with | (i,x)=>(i,s.eval x)) ps)=vs from e,hr w]
 rfl
theorem wc_draw_tailB {id:Nat}{ops:List Oper}(m:Nat) (nx:List Nat) (hm:P.follows .mixedOrders=true) (lb:Fr) (hlb:Sub lb l) (Φ:List VP) (dep:List (List Nat)) (live:List Nat)
  (hml:Nat.ble m ops.length=true) (hok:zCO N.n (ops.take m) dep lb=true) (hch:consecOk m ops=true) (hnx:nextOk m ops nx=true) (hback:backOk ops=true) (hΦ:Nat.beq Φ.length m=true) (hlive:(live.all fun i=>Nat.blt i m)=true) (hmono:Monos Bd Φ) (hob:Obs P N Bd (ops.take m) Φ Q lb w (ops.take m) Φ dep)
  (hfin:∀ W,Bd w W→zBp (depAt (ops.take m) Φ live) lb W fun l'=>WL P N ops.toArray Q (ops.drop m) l' W) : WC P N (.region id ops.toArray true) Q l w:=by
 intro a ha hg
 refine wpIn_region_any hm ?_
 have hΦ':=Nat.eq_of_beq_eq_true hΦ
 have hml':=Nat.le_of_ble_eq_true hml
 refine draw_tail2 sr_bd (w:={ w with drawn:=w.drawn+1 }) hml' hok (consec_of hch) hnx (back_of hback) hΦ' hmono (hob.drawn sr_bd) ?_ _ _ _ _ ?_ (by simp) ?_ ?_ ?_
 ·intro a' W listed hmid hall
  obtain ⟨l',hl',h⟩:=zBp.use (hfin W (sr_bd.drawn _ _ hmid.below)) hmid.base (live_told hmid (m:=m) (by simp; omega) (by omega) hlive hall)
  exact h a' hl' hmid.good
 ·refine ⟨sr_bd.refl _,ha.sub hlb,hg.step rfl (fun _ _ h _ _=>h) (Nat.le_refl _),?_⟩
  intro i o φ _ _ hi
  simp [Array.getElem?_replicate] at hi
 ·intro i o _ hi
  simp [Array.getElem?_replicate] at hi
 ·intro j hj hjl
  simp [Array.getElem?_replicate,hjl]
 ·simp
end
theorem ent50y : Enters Tryz.prog 50:=enters_of Tryz.func50 (by kernel_rfl) rfl
theorem ent117y : Enters Tryz.prog 117:=enters_of Tryz.func117 (by kernel_rfl) rfl
theorem fa34_0y : zCv Tryz.prog 34 0 0:=fun b o w=>by kernel_rfl
theorem fa34_1y : zCv Tryz.prog 34 1 1:=fun b o w=>by kernel_rfl
theorem agg9y : AggT Tryz.prog 9 false:=fun w=>by kernel_rfl
theorem mixedy : Tryz.prog.follows .mixedOrders=true:=by kernel_rfl
theorem cmpB (a c:ByteArray) (w:World) : Ret Tryz.prog 50 #[.string a,.string c] w fun v w'=>v=.int .i64 (Lib.compareBytes a.data.toList c.data.toList)∧w'=w:=by
 refine Calls.mono (Any.strings_Compare Tryz.laysCmp a c w) ?_
 rintro e w' ⟨rfl,rfl⟩
 exact ⟨_,rfl,⟨DK.refl,Nat.le_refl _⟩,rfl,rfl⟩
theorem ret_bd {f:Nat}{args:Array Value}{v:Value}{w:World}(h:Calls Tryz.prog f args w fun e w'=>e=.returned v∧Bd w w') : Ret Tryz.prog f args w fun u w'=>u=v∧Bd w w':=by
 refine Calls.mono h ?_
 rintro e w' ⟨rfl,hb⟩
 exact ⟨_,rfl,⟨DK.of_below hb.1,hb.1.size⟩,rfl,hb⟩
theorem bd_blk {w w':World}{b:Nat}{o:Obj}(h:w.heap[b]?=some o) (k:Bd w w') : w'.heap[b]?=some o:=(k.1.block b (Array.getElem?_eq_some_iff.1 h).1).trans h
theorem compare90 (a b c d:ByteArray) (w:World) : Calls Tryz.prog 90 #[.agg #[.string a,.string b],.agg #[.string c,.string d]] w fun e w'=>e=.returned (.int .i64 (if Lib.compareBytes a.data.toList c.data.toList=0 then Lib.compareBytes b.data.toList d.data.toList else Lib.compareBytes a.data.toList c.data.toList))∧Bd w w':=by
 have h : Ret Tryz.prog 90 #[.agg #[.string a,.string b],.agg #[.string c,.string d]] w fun v w'=>v=.int .i64 (if Lib.compareBytes a.data.toList c.data.toList=0 then Lib.compareBytes b.data.toList d.data.toList else Lib.compareBytes a.data.toList c.data.toList)∧Bd w w':=by
  refine ret_of (args:=[.agg #[.string a,.string b],.agg #[.string c,.string d]]) Tryz.func90 rfl Tryz.ntmps90 rfl (rs:=[.tmp 4]) rfl ?_
  refine wc_seq ?_
  refine wc_region ?_
  refine wl_op rfl (op_boxD rfl rfl ?_)
  intro w1 b1 hN1 hB1
  refine wl_op rfl (op_boxD rfl rfl ?_)
  intro w2 b2 hN2 hB2
  refine wl_op rfl (op_assign rfl rfl ?_)
  refine (wl_done (then_norm ?_))
  have hk1 : w2.heap[b1]?=some (.cells #[.string a,.string b] 34 (0,0)):=bd_blk hN1.blk hB2
  have hk2 : w2.heap[b2]?=some (.cells #[.string c,.string d] 34 (0,0)):=hN2.blk
  refine wc_seq ?_
  refine wc_draw_tailB 10 [1,4,3,4,10,6,9,8,9,10] mixedy [(2,.pointer (some ⟨b1,0,none⟩)),(3,.pointer (some ⟨b2,0,none⟩))] ⟨rfl,rfl,trivial⟩ [fun v _=>v=.pointer (some ⟨b1,0+0,none⟩),fun v _=>v=.string a,fun v _=>v=.pointer (some ⟨b2,0+0,none⟩),fun v _=>v=.string c,fun v _=>v=.int .i64 (Lib.compareBytes a.data.toList c.data.toList),fun v _=>v=.pointer (some ⟨b1,0+1,none⟩),fun v _=>v=.string b,fun v _=>v=.pointer (some ⟨b2,0+1,none⟩),fun v _=>v=.string d,fun v _=>v=.int .i64 (Lib.compareBytes b.data.toList d.data.toList)] [[],[0],[],[2],[1,3],[],[5],[],[7],[6,8]] [4,9] rfl rfl rfl rfl rfl rfl rfl ⟨fun _ _ _ _ h=>h,fun _ _ _ _ h=>h,fun _ _ _ _ h=>h,fun _ _ _ _ h=>h,fun _ _ _ _ h=>h,fun _ _ _ _ h=>h,fun _ _ _ _ h=>h,fun _ _ _ _ h=>h,fun _ _ _ _ h=>h,fun _ _ _ _ h=>h,trivial⟩ ⟨?_,?_,?_,?_,?_,?_,?_,?_,?_,?_,trivial⟩ ?_
  ·intro W hW
   refine zDP ?_
   refine zDZ rfl ?_
   exact zDQ rfl fa34_0y rfl ⟨told rfl rfl rfl,Bd.refl _⟩
  ·intro W hW
   rintro _ rfl
   refine zDP ?_
   refine zDZ rfl ?_
   exact op_load1 (v:=.string a) rfl agg9y (zDR (bd_blk hk1 hW) rfl) rfl ⟨told rfl rfl rfl,Bd.refl _⟩
  ·intro W hW
   refine zDP ?_
   refine zDZ rfl ?_
   exact zDQ rfl fa34_0y rfl ⟨told rfl rfl rfl,Bd.refl _⟩
  ·intro W hW
   rintro _ rfl
   refine zDP ?_
   refine zDZ rfl ?_
   exact op_load1 (v:=.string c) rfl agg9y (zDR (bd_blk hk2 hW) rfl) rfl ⟨told rfl rfl rfl,Bd.refl _⟩
  ·intro W hW
   rintro _ rfl
   rintro _ rfl
   refine zDP ?_
   refine zDZ rfl ?_
   refine zDf ent50y rfl (cmpB a c W) rfl ?_
   rintro _ W' ⟨rfl,rfl⟩
   exact ⟨told rfl rfl rfl,Bd.refl _⟩
  ·intro W hW
   refine zDP ?_
   refine zDZ rfl ?_
   exact zDQ rfl fa34_1y rfl ⟨told rfl rfl rfl,Bd.refl _⟩
  ·intro W hW
   rintro _ rfl
   refine zDP ?_
   refine zDZ rfl ?_
   exact op_load1 (v:=.string b) rfl agg9y (zDR (bd_blk hk1 hW) rfl) rfl ⟨told rfl rfl rfl,Bd.refl _⟩
  ·intro W hW
   refine zDP ?_
   refine zDZ rfl ?_
   exact zDQ rfl fa34_1y rfl ⟨told rfl rfl rfl,Bd.refl _⟩
  ·intro W hW
   rintro _ rfl
   refine zDP ?_
   refine zDZ rfl ?_
   exact op_load1 (v:=.string d) rfl agg9y (zDR (bd_blk hk2 hW) rfl) rfl ⟨told rfl rfl rfl,Bd.refl _⟩
  ·intro W hW
   rintro _ rfl
   rintro _ rfl
   refine zDP ?_
   refine zDZ rfl ?_
   refine zDf ent50y rfl (cmpB b d W) rfl ?_
   rintro _ W' ⟨rfl,rfl⟩
   exact ⟨told rfl rfl rfl,Bd.refl _⟩
  intro W hW
  rintro _ rfl
  rintro _ rfl
  refine zDP ?_
  refine wl_op rfl (op_buildSliceD (cs:=#[.int .i64 (Lib.compareBytes a.data.toList c.data.toList),.int .i64 (Lib.compareBytes b.data.toList d.data.toList)]) (e:=3) rfl (fun w=>by kernel_rfl) rfl ?_)
  intro w3 b3 hN3 hB3
  refine wl_op rfl (zDf ent117y rfl (ret_bd (or117 (Lib.compareBytes a.data.toList c.data.toList) (Lib.compareBytes b.data.toList d.data.toList) b3 2 w3 (zDR hN3.blk rfl) (zDR hN3.blk rfl))) rfl ?_)
  rintro _ w4 ⟨rfl,hB4⟩
  refine wl_op rfl (op_assign rfl rfl ?_)
  refine (wl_done (then_norm ?_))
  refine wc_ret ?_
  exact ⟨[_],⟨rfl,trivial⟩,rfl,hB1.trans (hB2.trans (hW.trans (hB3.trans hB4)))⟩
 refine Calls.mono h ?_
 rintro e w' ⟨v,rfl,_,rfl,hb⟩
 exact ⟨rfl,hb⟩
end Go.Ab
namespace Go.Ab
open Go.RowKit Go.Shelf Go.Proofs Go.Eng Go.Sort
def cmpV (a b c d:ByteArray) : Int:=if Lib.compareBytes a.data.toList c.data.toList=0 then Lib.compareBytes b.data.toList d.data.toList else Lib.compareBytes a.data.toList c.data.toList
def cmpC (a b c d:ByteArray) : Int:=if partB a b&&partB c d then cmpV a b c d else 0
set_option maxHeartbeats 4000000 in
theorem compare70 (a b c d:ByteArray) (w:World) : Calls Tryz.prog 70 #[.agg #[.string a,.string b],.agg #[.string c,.string d]] w fun e w'=>e=.returned (.int .i64 (cmpC a b c d))∧Bd w w':=by
 obtain ⟨w1,hw1⟩ : ∃ w1,w1=(w.alloc (.cells #[.string a,.string b] 34)).alloc (.cells #[.string c,.string d] 34):=⟨_,rfl⟩
 have hb1 : Bd w w1:=by rw [hw1]; exact ⟨((Below.refl _ _).alloc (Nat.le_refl _) _).alloc (by simp) _,Nat.le_refl _⟩
 have cP:=fun W=>part84 a b W
 have cQ:=fun W=>part84 c d W
 obtain ⟨V,hV⟩ : ∃ V,cmpV a b c d=V:=⟨_,rfl⟩
 have cC : ∀ W,Calls Tryz.prog 90 #[.agg #[.string a,.string b],.agg #[.string c,.string d]] W fun e w'=>e=.returned (.int .i64 V)∧Bd W w':=fun W=>by rw [← hV]; exact compare90 a b c d W
 go_enter Tryz.func70,Tryz.ntmps70
 go_wp2_with fail
 refine (cP _).mono ?_
 rintro e W1 ⟨rfl,hq1⟩
 rw [← hw1] at hq1
 have hk1 : w1.heap[w.heap.size]?=some (.cells #[.string a,.string b] 34 (0,0)):=by
  rw [hw1]; exact (Below.heap_alloc _ _ _ (by simp)).trans (World.alloc_heap_new w _)
 have hk2 : w1.heap[w.heap.size+1]?=some (.cells #[.string c,.string d] 34 (0,0)):=by
  rw [hw1]; have:=World.alloc_heap_new (w.alloc (.cells #[.string a,.string b] 34)) (.cells #[.string c,.string d] 34 (0,0)); rwa [World.size_alloc] at this
 have c1 : ∀ W,Bd w1 W→∀ i v,(#[Value.string a,Value.string b] : Array Value)[i]?=some v→W.cell? ⟨w.heap.size,i,none⟩=some v:=fun W h i v hv=>by simp [World.cell?,bd_blk hk1 h,hv]
 have c2 : ∀ W,Bd w1 W→∀ i v,(#[Value.string c,Value.string d] : Array Value)[i]?=some v→W.cell? ⟨w.heap.size+1,i,none⟩=some v:=fun W h i v hv=>by simp [World.cell?,bd_blk hk2 h,hv]
 have hc2:=c2 W1 hq1
 have hc1:=c1 W1 hq1
 cases hp : partB a b
 ·go_wp2_with fail
  go_ret
  exact ⟨by simp [cmpC,hp],hb1.trans hq1⟩
 ·go_wp2_with fail
  refine (cQ _).mono ?_
  rintro e W2 ⟨rfl,hq2⟩
  have hd1:=c1 W2 (hq1.trans hq2)
  have hd2:=c2 W2 (hq1.trans hq2)
  cases hq : partB c d
  ·go_wp2_with fail
   go_ret
   exact ⟨by simp [cmpC,hq],hb1.trans (hq1.trans hq2)⟩
  ·go_wp2_with fail
   refine (cC _).mono ?_
   rintro e W3 ⟨rfl,hq3⟩
   go_wp2_with fail
   go_ret
   exact ⟨by simp [cmpC,hp,hq,hV],hb1.trans (hq1.trans (hq2.trans hq3))⟩
end Go.Ab
namespace Go.Ab
open Go.RowKit Go.Shelf Go.Proofs Go.Eng

structure EncK (t:Ty) (enc:t.den→List Value) : Prop where
 len : ∀ x,(enc x).length=t.cells
 rc : ∀ m x,RC m t x (enc x)
 uniq : ∀ m x vs,RC m t x vs→vs=enc x
theorem rows_encK {m:Mem}{t:Ty}{enc:t.den→List Value}(hE:EncK t enc){xs:List t.den}{vs:List Value}(h:zBo m t xs vs) : vs=(xs.map enc).flatten:=by
 obtain ⟨us,h1,rfl,h3⟩:=h
 congr 1
 apply List.ext_getElem?
 intro i
 rw [List.getElem?_map]
 rcases Nat.lt_or_ge i xs.length with hi | hi
 ·rw [List.getElem?_eq_getElem hi,List.getElem?_eq_getElem (by omega),Option.map_some,hE.uniq m _ _ (h3 i _ _ (List.getElem?_eq_getElem hi) (List.getElem?_eq_getElem (by omega)))]
 ·rw [List.getElem?_eq_none hi,List.getElem?_eq_none (by omega)]; rfl
theorem encK_rows {m:Mem}{t:Ty}{enc:t.den→List Value}(hE:EncK t enc) (xs:List t.den) : zBo m t xs (xs.map enc).flatten :=
 ⟨xs.map enc,by simp,rfl,fun i y u hy hu=>by
  rw [List.getElem?_map,hy] at hu
  cases hu
  exact hE.rc m y⟩
theorem flatK_list {α:Type} [Inhabited α] {enc:α→List Value}{k:Nat}(hk:∀ x,(enc x).length=k) (d:List α) : (Go.Sort.flatK enc k d.toArray).toList=(d.map enc).flatten:=by
 have hl : (d.map enc).flatten.length=d.length * k:=by
  rw [zCf (k:=k) (by simp:(d.map enc).length=d.length)]
  intro u hu
  obtain ⟨x,_,rfl⟩:=List.mem_map.1 hu
  exact hk x
 apply List.ext_getElem?
 intro j
 rcases Nat.lt_or_ge j (d.length * k) with hj | hj
 ·obtain ⟨v,hv⟩ : ∃ v,(d.map enc).flatten[j]?=some v:=⟨_,List.getElem?_eq_getElem (by rw [hl]; exact hj)⟩
  obtain ⟨z,r,u,e,h2,h3⟩:=flatten_at (c:=k) (fun u hu=>by
   obtain ⟨x,_,rfl⟩:=List.mem_map.1 hu
   exact hk x) hv
  rw [List.getElem?_map] at h2
  cases hz : d[z]? with
  | none=>rw [hz] at h2; cases h2
  | some x =>
   rw [hz] at h2
   cases h2
   have hzl:=(List.getElem?_eq_some_iff.1 hz).1
   have hr : r < k:=by have:=(List.getElem?_eq_some_iff.1 h3).1; rw [hk] at this; exact this
   have hd : j / k=z:=by rw [e,Nat.mul_comm,Nat.mul_add_div (by omega),Nat.div_eq_of_lt hr]; omega
   have hm : j % k=r:=by rw [e,Nat.mul_comm,Nat.mul_add_mod,Nat.mod_eq_of_lt hr]
   rw [hv]
   simp only [Go.Sort.flatK,Array.toList_map,List.getElem?_map,Array.toList_range,List.size_toArray]
   rw [List.getElem?_range hj,Option.map_some,hd,hm]
   congr 1
   have h4 : d.toArray[z]! = x:=by
    rw [getElem!_pos d.toArray z (by simpa using hzl)]
    have:=(List.getElem?_eq_some_iff.1 hz).2
    simpa using this
   rw [h4,getElem!_pos (enc x) r (by rw [hk]; exact hr)]
   exact (List.getElem?_eq_some_iff.1 h3).2
 ·rw [List.getElem?_eq_none (by simp only [Go.Sort.flatK,Array.toList_map,List.length_map,Array.toList_range,List.length_range,List.size_toArray]; exact hj),List.getElem?_eq_none (by rw [hl]; exact hj)]

theorem row_putV {e w:World}{m:Mem}{F:Frag}{b E:Nat}{cs:Array Value}{vs ys:List Value}(hs:SH e w m ((b,.cells cs E (0,0))::F)) (hv:cs.toList.take vs.length=vs) (hle:vs.length≤cs.size) (hl:ys.length=vs.length) :
  Sort.Holds id w b 0 vs.toArray∧b < w.heap.size∧∀ n os,∃ cs',cs'.size=cs.size∧cs'.toList.take vs.length=ys∧SH e (Sort.grow (Sort.putRow id (Sort.ahead w n) b 0 ys.toArray) os) m ((b,.cells cs' E (0,0))::F)∧DK nox w (Sort.grow (Sort.putRow id (Sort.ahead w n) b 0 ys.toArray) os):=by
 have hb:=hs.own (b,.cells cs E (0,0)) (by simp)
 simp only at hb
 have hbl:=(Array.getElem?_eq_some_iff.1 hb).1
 refine ⟨fun j hj=>?_,hbl,fun n os=>?_⟩
 ·have hj' : j < vs.length:=by simpa using hj
  refine ⟨?_,?_⟩
  ·simp only [World.cell?,hb,Nat.zero_add]
   have h2:=congrArg (fun l=>l[j]?) hv
   simp only [List.getElem?_take,hj',if_true,List.getElem?_eq_getElem hj'] at h2
   rw [getElem!_pos _ j hj]
   simpa using h2
  ·simp [World.frozen?,hb]
 ·obtain ⟨w1,hw1⟩ : ∃ w1,w1=Sort.putRow id (Sort.ahead w n) b 0 ys.toArray:=⟨_,rfl⟩
  have hget : ∀ k,w1.heap[k]?=if b=k then (w.heap[k]?).map (Sort.onCells (Sort.putCells id 0 ys.toArray)) else w.heap[k]?:=by
   intro k
   rw [hw1]
   simp only [Sort.putRow,Sort.mapBlock,Sort.ahead,Array.getElem?_modify]
  have hP : Put w w1 b:=by
   refine ⟨by rw [hw1]; rfl,by rw [hw1]; rfl,by rw [hw1]; rfl,by rw [hw1]; simp [Sort.putRow,Sort.mapBlock,Sort.ahead],fun k hk=>?_⟩
   rw [hget,if_neg (fun e=>hk e.symm)]
  have hb1 : w1.heap[b]?=some (.cells (Sort.putCells id 0 ys.toArray cs) E (0,0)):=by
   rw [hget,if_pos rfl,hb]; rfl
  have hs1:=hs.put hP hb1 rfl
  have hBl : Below w1.heap.size w1 (Sort.grow w1 os):=⟨rfl,rfl,rfl,by simp,fun k hk=>Sort.heap_grow_old w1 os hk⟩
  rw [← hw1]
  have hsz : (Sort.putCells id 0 ys.toArray cs).size=cs.size:=by simp [Sort.putCells]
  refine ⟨_,hsz,?_,hs1.ext hBl,?_⟩
  ·apply List.ext_getElem?
   intro j
   rw [List.getElem?_take]
   rcases Nat.lt_or_ge j vs.length with hj | hj
   ·have hjc : j < cs.size:=by omega
    have hjy : j < ys.length:=by omega
    have hyj : ys[j]?=some (ys[j]'hjy):=List.getElem?_eq_getElem hjy
    rw [if_pos hj,hyj]
    have h9 : (Sort.putCells id 0 ys.toArray cs)[j]?=some (ys[j]'hjy):=by
     simp only [Sort.putCells,Array.getElem?_mapIdx,Array.getElem?_eq_getElem hjc,Option.map_some,Nat.zero_le,true_and,Nat.zero_add,Nat.sub_zero,List.size_toArray,hjy,if_true,id]
     rw [getElem!_pos _ j (by simpa using hjy)]
     simp
    simpa using h9
   ·rw [if_neg (by omega),List.getElem?_eq_none (by omega)]
  ·intro k o hk hcx _
   have hkl:=(Array.getElem?_eq_some_iff.1 hk).1
   rw [Sort.heap_grow_old w1 os (by rw [hP.size]; exact hkl),hget]
   split
   ·rename_i e'; subst e'; rw [hb] at hk; cases hk; cases hcx
   ·exact hk

theorem RepL.osl0fn {m:Mem}{h:Value}{g:FuncId}{vs:List Value}(H:RepL m [h] [.osl 0,.fn g [] []] vs) : vs=[h,.func (.func g) #[] #[]]:=by
 match vs,H with
 | [v,u],H =>
  simp only [RepL,RepA,and_true] at H
  obtain ⟨⟨h1,_⟩,us,ws,rfl,h3,h4⟩:=H
  simp at h1
  subst h1
  cases us with
  | nil=>cases ws with
   | nil=>rfl
   | cons=>simp [RepL] at h4
  | cons=>simp [RepL] at h3
theorem runs_sortF {P:Program}{f:FuncId}{t:Ty}{α:Type} [Inhabited α] {val:α→t.den}{enc:t.den→List Value}(hE:EncK t enc){E g:Nat}{xs ys:List α}(hl:ys.length=xs.length)
  (hS:∀ (b cap:Nat) (w:World),Go.Sort.HoldsK (fun a=>enc (val a)) t.cells w b 0 xs.toArray→b < w.heap.size→Calls P f #[.slice (some ⟨b,0,none⟩) xs.toArray.size cap,.func (.func g) #[] #[]] w fun e w'=>e=.returned (.tuple #[])∧∃ d' n os,d'=ys.toArray∧w'=sortWorldK (fun a=>enc (val a)) t.cells w b 0 n d' os)
  (h0:∀ w,Calls P f #[.slice none 0 0,.func (.func g) #[] #[]] w fun e w'=>e=.returned (.tuple #[])∧w'=w) : Runs P f [.osl 0,.fn g [] []] [.sl E t (xs.map val)] fun q Hq=>q=[]∧Hq=[.sl E t (ys.map val)]:=by
 intro e w m ρ φ F vs hv ho hs
 obtain ⟨h,fr,rfl,rfl,ho1⟩:=ho.one
 have:=hv.osl0fn
 subst this
 obtain ⟨q0,ho2 | ho2⟩:=ho1
 ·obtain ⟨hx,rfl,rfl⟩:=ho2
  have hx' : xs=[]:=by simpa using hx
  subst hx'
  have : ys=[]:=List.eq_nil_of_length_eq_zero hl
  subst this
  refine Calls.mono (h0 w) ?_
  rintro e' w' ⟨rfl,rfl⟩
  exact ⟨_,rfl,⟨DK.refl,Nat.le_refl _⟩,_,_,m,_,_,⟨rfl,rfl⟩,Mem.le_refl _,fun i h hi=>hi,Nat.le_refl _,⟨rfl,rfl,fun i o h f hi hh hf=>by
   cases i with
   | zero=>simp at hi hh hf; subst hi hh hf; exact ⟨by simp,.inl ⟨rfl,rfl,rfl⟩⟩
   | succ i=>simp at hi⟩,hs,[],by simp [RepL],rfl⟩
 ·obtain ⟨b,c,cs,us,rfl,rfl,q1,q2,q3,q4,q5⟩:=ho2
  simp only [List.length_map] at q0 q1 q5
  have hs' : SH e w m ((b,.cells cs E (0,0))::F):=by simpa using hs
  have hus:=rows_encK hE q4
  have hflat : ∀ zs : List α,(Go.Sort.flatK (fun a=>enc (val a)) t.cells zs.toArray).toList=((zs.map val).map enc).flatten:=fun zs=>by
   rw [flatK_list (fun x=>hE.len (val x)),List.map_map]; rfl
  have hlen : ∀ zs : List α,(((zs.map val).map enc).flatten).length=zs.length * t.cells:=fun zs=>by
   rw [zCf (k:=t.cells) (by simp:((zs.map val).map enc).length=zs.length)]
   intro u hu
   obtain ⟨x,_,rfl⟩:=List.mem_map.1 hu
   exact hE.len x
  have hul : us.length=xs.length * t.cells:=by rw [hus,hlen]
  obtain ⟨g1,g2,g3⟩:=row_putV (vs:=us) (ys:=((ys.map val).map enc).flatten) hs' (by rw [hul]; exact q5) (by rw [hul,q3]; exact Nat.mul_le_mul_right _ q1) (by rw [hul,hlen,hl])
  have hH : Go.Sort.HoldsK (fun a=>enc (val a)) t.cells w b 0 xs.toArray:=by
   unfold Go.Sort.HoldsK
   have : Go.Sort.flatK (fun a=>enc (val a)) t.cells xs.toArray=us.toArray:=by
    rw [hus,← hflat xs]
   rw [this]; exact g1
  have hcall:=hS b c w hH g2
  simp only [List.size_toArray] at hcall
  simp only [List.length_map]
  refine Calls.mono hcall ?_
  rintro e' w' ⟨rfl,d',n,os,rfl,rfl⟩
  have hw : sortWorldK (fun a=>enc (val a)) t.cells w b 0 n ys.toArray os=Sort.grow (Sort.putRow id (Sort.ahead w n) b 0 (((ys.map val).map enc).flatten).toArray) os:=by
   unfold sortWorldK Go.Sort.putRowK
   rw [← hflat ys]
  rw [hw]
  obtain ⟨cs',k1,k2,k4,k5⟩:=g3 n os
  have hsz : w.heap.size≤(Sort.grow (Sort.putRow id (Sort.ahead w n) b 0 (((ys.map val).map enc).flatten).toArray) os).heap.size:=by simp [Sort.putRow,Sort.mapBlock,Sort.ahead]
  refine ⟨_,rfl,⟨k5,hsz⟩,_,_,m,[.slice (some ⟨b,0,none⟩) xs.length c],[[(b,.cells cs' E (0,0))]],⟨rfl,rfl⟩,Mem.le_refl _,fun i h hi=>hi,Nat.le_refl _,⟨rfl,rfl,fun i o h f hi hh hf=>?_⟩,by simpa using k4,[],by simp [RepL],rfl⟩
  cases i with
  | zero =>
   simp at hi hh hf; subst hi hh hf
   refine ⟨by rw [List.length_map]; omega,.inr ⟨b,c,cs',_,by rw [List.length_map,hl],rfl,by rw [List.length_map]; omega,q2,by rw [k1]; exact q3,?_,rfl⟩⟩
   rw [List.length_map,hl,← hul,k2]
   exact encK_rows hE _
  | succ i=>simp at hi
end Go.Ab
namespace Go.Ab
open Go.RowKit Go.Shelf Go.Proofs Go.Eng Go.Sort Go.Lib
theorem cb_refl : ∀ a : List UInt8,compareBytes a a=0:=by
 intro a
 induction a with
 | nil=>rfl
 | cons x a ih=>simp [compareBytes,ih]
theorem cb_zero : ∀ {a b:List UInt8},compareBytes a b=0→a=b:=by
 intro a
 induction a with
 | nil=>intro b h; cases b with
  | nil=>rfl
  | cons=>simp [compareBytes] at h
 | cons x a ih=>intro b h; cases b with
  | nil=>simp [compareBytes] at h
  | cons y b =>
   simp only [compareBytes] at h
   split at h
   ·simp at h
   ·split at h
    ·simp at h
    ·rename_i h1 h2
     rw [UInt8.le_antisymm (UInt8.not_lt.1 h2) (UInt8.not_lt.1 h1),ih h]
theorem cb_swap : ∀ (a b:List UInt8),compareBytes b a=- compareBytes a b:=by
 intro a
 induction a with
 | nil=>intro b; cases b <;> simp [compareBytes]
 | cons x a ih=>intro b; cases b with
  | nil=>simp [compareBytes]
  | cons y b =>
   simp only [compareBytes]
   by_cases h1 : x < y
   ·have h2 : ¬ y < x:=UInt8.not_lt.2 (UInt8.le_of_lt h1)
    simp [h1,h2]
   ·by_cases h2 : y < x
    ·simp [h1,h2]
    ·simp [h1,h2,ih]
theorem cb_trans : ∀ {a b c:List UInt8},compareBytes a b≤0→compareBytes b c≤0→compareBytes a c≤0:=by
 intro a
 induction a with
 | nil=>intro b c _ _; cases c <;> simp [compareBytes]
 | cons x a ih=>intro b c h1 h2; cases b with
  | nil=>simp [compareBytes] at h1
  | cons y b=>cases c with
   | nil=>simp [compareBytes] at h2
   | cons z c =>
    simp only [compareBytes] at h1 h2 ⊢
    by_cases h3 : x < y
    ·by_cases h4 : y < z
     ·simp [UInt8.lt_trans h3 h4]
     ·by_cases h5 : z < y
      ·simp [h4,h5] at h2
      ·have : y=z:=UInt8.le_antisymm (UInt8.not_lt.1 h5) (UInt8.not_lt.1 h4)
       subst this; simp [h3]
    ·by_cases h4 : y < x
     ·simp [h3,h4] at h1
     ·have : x=y:=UInt8.le_antisymm (UInt8.not_lt.1 h4) (UInt8.not_lt.1 h3)
      subst this
      by_cases h5 : x < z
      ·simp [h5]
      ·by_cases h6 : z < x
       ·simp [h5,h6] at h2
       ·simp [h5,h6,h3] at h1 h2 ⊢
        exact ih h1 h2
theorem cmpP_refl (x:Str×Str) : cmpP x x=0:=by simp [cmpP,cb_refl]
theorem cmpP_zero {x y:Str×Str}(h:cmpP x y=0) : x=y:=by
 unfold cmpP at h
 split at h
 ·rename_i h1; exact Prod.ext (cb_zero h1) (cb_zero h)
 ·contradiction
theorem zDh (x y:Str×Str) : cmpP y x=- cmpP x y:=by
 unfold cmpP
 rw [cb_swap x.1 y.1,cb_swap x.2 y.2]
 by_cases h : compareBytes x.1 y.1=0
 ·simp [h]
 ·rw [if_neg h,if_neg (by omega)]
theorem cmpP_trans {x y z:Str×Str}(h1:cmpP x y≤0) (h2:cmpP y z≤0) : cmpP x z≤0:=by
 unfold cmpP at *
 by_cases e1 : compareBytes x.1 y.1=0
 ·have e:=cb_zero e1
  rw [if_pos e1] at h1
  rw [e]
  by_cases e2 : compareBytes y.1 z.1=0
  ·rw [if_pos e2] at h2 ⊢; exact cb_trans h1 h2
  ·rw [if_neg e2] at h2 ⊢; exact h2
 ·rw [if_neg e1] at h1
  by_cases e2 : compareBytes y.1 z.1=0
  ·have e:=cb_zero e2
   rw [← e,if_neg e1]; exact h1
  ·rw [if_neg e2] at h2
   have h3:=cb_trans h1 h2
   by_cases e3 : compareBytes x.1 z.1=0
   ·exfalso
    have e:=cb_zero e3
    rw [← e] at h2
    have:=cb_swap x.1 y.1
    omega
   ·rw [if_neg e3]; exact h3
theorem sortedP_uniq : ∀ {a b:List (Str×Str)},a.Perm b→a.Pairwise (fun x y=>cmpP x y≤0)→b.Pairwise (fun x y=>cmpP x y≤0)→a=b:=by
 intro a
 induction a with
 | nil=>intro b h _ _; exact (List.nil_perm.1 h).symm
 | cons x a ih =>
  intro b h ha hb
  cases b with
  | nil=>exact absurd h.length_eq (by simp)
  | cons y b =>
   have hxy : x=y:=by
    have hx : x∈y::b:=h.mem_iff.1 List.mem_cons_self
    have hy : y∈x::a:=h.mem_iff.2 List.mem_cons_self
    rcases List.mem_cons.1 hx with e | hx
    ·exact e
    ·rcases List.mem_cons.1 hy with e | hy
     ·exact e.symm
     ·have h1:=List.rel_of_pairwise_cons ha hy
      have h2:=List.rel_of_pairwise_cons hb hx
      have:=zDh x y
      exact cmpP_zero (by omega)
   subst hxy
   rw [ih (List.Perm.cons_inv h) ha.of_cons hb.of_cons]
end Go.Ab
namespace Go.Ab
open Go.RowKit Go.Shelf Go.Proofs Go.Eng Go.Sort Go.Lib
abbrev YP : Ty:=.st (.pair .str .str)
theorem zDg (l:List (Str×Str)) : (zDo l).Perm l:=List.mergeSort_perm _ _
theorem isortP_sorted (l:List (Str×Str)) : (zDo l).Pairwise (fun x y=>cmpP x y≤0):=by
 have:=List.pairwise_mergeSort (le:=fun x y=>decide (cmpP x y≤0)) (fun a b c h1 h2=>by simp only [decide_eq_true_eq] at *; exact cmpP_trans h1 h2) (fun a b=>by
  have:=zDh a b
  simp only [Bool.or_eq_true,decide_eq_true_eq]; omega) l
 exact this.imp fun h=>by simpa using h
theorem isortP_uniq {a b:List (Str×Str)}(h:a.Perm b) : zDo a=zDo b:=sortedP_uniq ((zDg a).trans (h.trans (zDg b).symm)) (isortP_sorted a) (isortP_sorted b)
def encP (x:Str×Str) : List Value:=[.string (bstr x.1),.string (bstr x.2)]
theorem encP_ok : EncK YP encP:=by
 refine ⟨fun x=>rfl,fun m x=>?_,fun m x vs h=>?_⟩
 ·exact ⟨[.string (bstr x.1)],[.string (bstr x.2)],rfl,rfl,rfl⟩
 ·obtain ⟨c,d,rfl,rfl,rfl⟩:=h
  rfl
abbrev CompR:={ x : Str×Str // partB (bstr x.1) (bstr x.2)=true }
theorem compR0 : partB (bstr [97]) (bstr [])=true:=by decide +kernel
instance : Inhabited CompR:=⟨⟨([97],[]),compR0⟩⟩
def cfP (x y:CompR) : Int:=cmpP x.1 y.1
theorem cmpC_eq (x y:CompR) : cmpC (bstr x.1.1) (bstr x.1.2) (bstr y.1.1) (bstr y.1.2)=cfP x y:=by
 unfold cmpC cfP cmpP cmpV
 rw [x.2,y.2]
 simp [bstr]
 rfl
theorem ltP (x y:CompR) : ltOf cfP x y=decide (cmpP x.1 y.1 < 0):=rfl
theorem swoP : Sort.SWO (ltOf cfP) where
 irrefl x:=by rw [ltP,cmpP_refl]; rfl
 trans x y z h1 h2:=by
  rw [ltP] at *
  simp only [decide_eq_true_eq] at *
  have h3:=cmpP_trans (x:=x.1) (y:=y.1) (z:=z.1) (by omega) (by omega)
  by_cases e : cmpP x.1 z.1=0
  ·have e:=cmpP_zero e
   rw [← e] at h2
   have:=zDh x.1 y.1
   omega
  ·omega
 ntrans x y z h1 h2:=by
  rw [ltP] at *
  simp only [decide_eq_false_iff_not] at *
  have s1:=zDh x.1 y.1
  have s2:=zDh y.1 z.1
  have s3:=zDh x.1 z.1
  have:=cmpP_trans (x:=z.1) (y:=y.1) (z:=x.1) (by omega) (by omega)
  omega
theorem lift_comp : ∀ {l:List (Str×Str)},(∀ x∈l,partB (bstr x.1) (bstr x.2)=true)→∃ xs : List CompR,xs.map Subtype.val=l:=by
 intro l
 induction l with
 | nil=>intro _; exact ⟨[],rfl⟩
 | cons x l ih =>
  intro h1
  obtain ⟨xs,hxs⟩:=ih fun y hy=>h1 y (List.mem_cons_of_mem _ hy)
  exact ⟨⟨x,h1 x List.mem_cons_self⟩::xs,by simp [hxs]⟩
theorem k88_runs {l:List (Str×Str)}(hv:∀ c∈l,partB (bstr c.1) (bstr c.2)=true) (hlen:l.length < 4611686018427387904) : Runs Tryz.prog 88 [.osl 0,.fn 70 [] []] [.sl 34 YP l] (fun q Hq=>q=[]∧Hq=[.sl 34 YP (zDo l)]):=by
 obtain ⟨xs,rfl⟩:=lift_comp hv
 obtain ⟨ys,hys⟩:=lift_comp (l:=zDo (xs.map Subtype.val)) fun c hc=>hv c ((zDg _).mem_iff.1 hc)
 have hyl : ys.length=xs.length:=by
  have:=(zDg (xs.map Subtype.val)).length_eq
  rw [← hys] at this; simpa using this
 rw [← hys]
 refine runs_sortF (val:=(Subtype.val : CompR→_)) encP_ok hyl (fun b cap w hH hb=>?_) (fun w=>AnyF.slices_SortFunc_none Tryz.laysSortF none 0 _ w)
 refine Calls.mono (AnyQ.slices_SortFunc Tryz.laysSortF 2 Tryz.isAgg34 Tryz.sizeOf34 (fun a:CompR=>encP a.1) (fun _=>rfl) (fun x v hv=>by simp [encP] at hv; rcases hv with rfl | rfl <;> rfl) cfP swoP 70 #[] b 0 cap xs.toArray w (enters_of Tryz.func70 (by kernel_rfl) rfl) (fun m os dk hs x y=>?_) hH hb (by simpa using hlen)) ?_
 ·refine Calls.mono (compare70 (bstr x.1.1) (bstr x.1.2) (bstr y.1.1) (bstr y.1.2) _) ?_
  rintro e w' ⟨rfl,hq⟩
  exact ⟨by rw [cmpC_eq],hq.grown⟩
 ·rintro e w' ⟨rfl,d',n,os,hp,hs,rfl⟩
  refine ⟨rfl,d',n,os,?_,rfl⟩
  obtain ⟨p1,_,p3⟩:=hp
  have hd : d'.toList.Perm xs:=by
   have e1 : d'.extract 0 xs.toArray.size=d':=by rw [← p1]; simp
   rw [e1] at p3
   simpa using p3
  have key : d'.toList=ys:=by
   have hm : d'.toList.map Subtype.val=ys.map (Subtype.val : CompR→Str×Str):=by
    rw [hys]
    refine sortedP_uniq ((hd.map _).trans (zDg _).symm) ?_ (isortP_sorted _)
    rw [List.pairwise_map,List.pairwise_iff_getElem]
    intro i j hi hj hij
    have hi' : i < d'.size:=by simpa using hi
    have hj' : j < d'.size:=by simpa using hj
    have h4:=hs i j (Nat.zero_le _) hij (by rw [← p1]; exact hj')
    rw [ltP] at h4
    rw [getElem!_pos d' i hi',getElem!_pos d' j hj'] at h4
    have h5:=of_decide_eq_false h4
    have:=zDh (d'[i]).1 (d'[j]).1
    simp only [Array.getElem_toList]
    omega
   exact List.map_inj_right (fun x y h=>Subtype.ext h) |>.1 hm
  rw [← key]
end Go.Ab
namespace Go.Ab
open Go.RowKit Go.Shelf Go.Proofs Go.Eng
theorem partB_eq (c:Str×Str) : partB (bstr c.1) (bstr c.2)=pOkL c:=by
 have h1 : ∀ s : Str,segB (bstr s)=segL s:=fun s=>by
  unfold segB segL cfS
  have : (bstr s).size=s.length:=by simp [bstr,ByteArray.size]
  rw [this]
 have h2 : ∀ s : Str,decide (bstr s=ByteArray.empty)=decide (s=[]):=fun s=>by
  by_cases e : s=[]
  ·subst e; rfl
  ·have : bstr s≠ByteArray.empty:=fun h=>e (by have:=congrArg (fun b:ByteArray=>b.data.toList) h; simpa [bstr] using this)
   simp [e,this]
 unfold partB pOkL
 rw [h1,h1,h2,h2]
theorem k68_89_runs {p0:List ((Str×Str)×zDL)}{r:List (Str×Str)}(hr:skeysC p0=some r) : Runs Tryz.prog 68 [.fn 89 [] [.ptr 0 0],.fn 70 [] []] [.var 61 [.dm YK (.raw ifN) p0]] (fun q Hq=>q=[.osl 1]∧Hq=[.dead,.sl 34 YK r]):=by
 unfold skeysC at hr
 obtain ⟨h,hr⟩:=zAN hr
 have hr:=Option.some.inj hr
 subst hr
 simp only [Bool.and_eq_true,List.all_eq_true,Nat.ble_eq] at h
 refine zAW Tryz.func68 Tryz.ntmps68 rfl (rs:=[.tmp 4]) rfl rfl fun w0 X hX=>?_
 refine zDO ?_
 refine zDK ?_
 refine zDY (zDJ rfl) ?_
 refine zAJ (zAZ (zDO ?_))
 refine zDK ?_
 refine zDY (zAg rfl) ?_
 refine zAK (aop_callOE (σ:=[0]) (as':=[.fn 89 [] [.ptr 0 0]]) (C:=KP p0) (rs:=fun _=>[.osl 1]) (H':=fun l=>[.dead,.sl 34 YK l]) (k87_runs h.2).x ent87k rfl ⟨cv0,trivial⟩ rfl rfl (fun l hp=>?_))
 have hp : l.Perm (p0.map (·.1)):=hp
 refine zDY (zDJ rfl) ?_
 refine zAJ (zAZ (zDO ?_))
 refine zDK ?_
 refine zDY (zAg rfl) ?_
 refine zDY (zAg rfl) ?_
 refine zAK (zAP (σ:=[1]) (as':=[.osl 1,.fn 70 [] []]) (k88_runs (l:=l) (fun c hc=>?_) ?_).x ent88k rfl ⟨cv0,cv0,trivial⟩ rfl rfl rfl ?_)
 ·obtain ⟨p,h1,rfl⟩:=List.mem_map.1 (hp.mem_iff.1 hc)
  rw [partB_eq]; exact h.1 p h1
 ·have:=hp.length_eq; simp at this; omega
 refine zAJ (zAZ (zDO ?_))
 refine zDK ?_
 refine zDY (zAg rfl) ?_
 refine zDY (zDJ rfl) ?_
 rw [← isortP_uniq hp]
 exact zAJ (zAZ (zAw (zAe (l':=[(4,.osl 1)]) (Hs:=[(0,.dead),(1,.sl 34 YK (zDo l))]) (n:=2) (zAA hX [0,1] 4 rfl rfl ⟨⟨_,rfl,cv0⟩,trivial⟩ ⟨zAL,zAL,trivial⟩) rfl rfl rfl ⟨rfl,trivial⟩)))
end Go.Ab
namespace Go.Ab
def f69  : Option (Int) :=
some 2
def f68  : Option (Int) :=
some 3
def g6_b1 (x6:ZX) (i9:Int) (s:Unit) : Option (Unit ⊕ Unit) :=
(ix x6.2.2.2.2.1 i9).bind fun x14 =>
bif (decide (40 < (List.length x14.1 : Int)))||(decide (40 < (List.length x14.2 : Int))) then
(some (.inr ()))
else
(some (.inl ()))
def g6_b0 (p0:List (ZX)) (i1:Int) (s:Unit) : Option (Unit ⊕ Unit) :=
(ix p0 i1).bind fun x6 =>
bif (decide (25 < (List.length x6.2.2.2.2.1 : Int)))||(decide (60 < (List.length x6.2.2.2.2.2 : Int))) then
(some (.inr ()))
else
((rng (g6_b1 x6) (Int.toNat (List.length x6.2.2.2.2.1 : Int)) 0 ()).bind fun o11=>match o11 with
| .inl ()=>(some (.inl ()))
| .inr ()=>(some (.inr ())))
def g6 (p0:List (ZX)) : Option (Bool) :=
(rng (g6_b0 p0) (Int.toNat (List.length p0 : Int)) 0 ()).bind fun o3=>match o3 with
| .inl ()=>(some (decide ((List.length p0 : Int)≤60)))
| .inr ()=>(some false)
def f32_b0 (p0:ZN) (q1:ZC→Option Bool) (i1:Int) (s:Unit) : Option (Unit ⊕ Int) :=
(ix p0 i1).bind fun x7 =>
(q1 x7).bind fun x9 =>
bif x9 then
(some (.inr i1))
else
(some (.inl ()))
def f32 (p0:ZN) (q1:ZC→Option Bool) : Option (Int) :=
(rng (f32_b0 p0 q1) (Int.toNat (List.length p0 : Int)) 0 ()).bind fun o4=>match o4 with
| .inl ()=>(some (-1))
| .inr s3=>(some s3)
def f19 (p0:ZN) (q1:ZC→Option Bool) : Option (Bool) :=
(f32 p0 q1).bind fun x1 =>
some (decide (0≤x1))
def f21_b0 (p0:Str×Str) (i1:Int) (s:Unit) : Option (Unit ⊕ Unit) :=
(ix ([p0.1,p0.2] : List Str) i1).bind fun x6 =>
bif (!(!(decide (32 < (List.length x6 : Int))))||Option.isSome (fCF x6)) then
bif (decide (32 < (List.length x6 : Int)))||((fCF x6).getD default) then
(some (.inr ()))
else
(some (.inl ()))
else none
def f21 (p0:Str×Str) : Option (Bool) :=
(rng (f21_b0 p0) (Int.toNat 2) 0 ()).bind fun o3=>match o3 with
| .inl ()=>(some (!((decide (bstr p0.1=bstr ([] : Str)))&&(decide (bstr p0.2=bstr ([] : Str))))))
| .inr ()=>(some false)
def f20 (p0:Str×Str) : Option (Bool) :=
(f21 p0).bind fun x1 =>
some (!x1)
def f9 (p0:ZN) : Option (Bool) :=
bif (!((decide (1≤(List.length p0 : Int)))&&(decide ((List.length p0 : Int)≤20)))||Option.isSome (f19 p0 (fun y1=>f20 y1))) then
some (((decide (1≤(List.length p0 : Int)))&&(decide ((List.length p0 : Int)≤20)))&&(!((f19 p0 (fun y1=>f20 y1)).getD default)))
else none
def f38 (p0:Int) : Option (Bool) :=
some (((decide (p0=46))||(decide (p0=47)))||(decide (p0=92)))
def f37_b0 (p0:Str) (i2:Int) (s4:Str) : Option (Str ⊕ Unit) :=
(((ix p0 i2).bind fun x14 =>
(f38 ((UInt8.toNat x14 : Nat) : Int)).bind fun x16 =>
bif x16 then
((fWB s4 92).bind fun x19 =>
some (.inl x19))
else
(some (.inl s4))) : Option (Str ⊕ Unit)).bind fun o12=>match o12 with
| .inl s11=>((ix p0 i2).bind fun x21 =>
(fWB s11 ((UInt8.toNat x21 : Nat) : Int)).bind fun x23 =>
some (.inl x23))
| .inr _=>none
def f37 (p0:Str) (p1_0:Str) : Option (Str) :=
bif decide ((List.length p0 : Int)≤9223372036854775807) then
(rng (f37_b0 p0) (Int.toNat (List.length p0 : Int)) 0 p1_0).bind fun o8=>match o8 with
| .inl s4=>(some s4)
| .inr _=>none
else none
def f29 (p0:Str×Str) : Option (Str) :=
(f37 p0.1 ([] : Str)).bind fun x1 =>
((bif !decide (p0.2=([] : Str)) then
((fWB x1 46).bind fun x7 =>
(f37 p0.2 x7).bind fun x9 =>
some (.inl x9))
else
(some (.inl x1))) : Option (Str ⊕ Unit)).bind fun o4=>match o4 with
| .inl s3=>((fBS s3).bind fun x11 =>
some x11)
| .inr _=>none
def f17_b0 (p0:ZN) (i1:Int) (s3:List Str) : Option ((List Str) ⊕ Unit) :=
(ix p0 i1).bind fun x11 =>
(f29 x11).bind fun x13 =>
bif apOk 16 (List.length s3+List.length [x13]) then
some (.inl (s3++[x13]))
else none
def f17 (p0:ZN) : Option (Str) :=
(rng (f17_b0 p0) (Int.toNat (List.length p0 : Int)) 0 ([] : List Str)).bind fun o6=>match o6 with
| .inl s3=>((fJoin s3 ([47] : Str)).bind fun x8 =>
some x8)
| .inr _=>none
def f7_b0 (p0:Str) (s:Nat×Bool×Int×(ZN)) : Option ((Nat×Bool×Int×(ZN)) ⊕ (Unit ⊕ ((ZN)))) :=
match s with
| (s4,s5,s6,s7)=>(bif decide (s6 < (List.length p0 : Int)) then
((((ix p0 s6).bind fun x29 =>
bif decide (((UInt8.toNat x29 : Nat) : Int)=47) then
(bif apOk 32 (List.length s7+List.length [(([] : Str),([] : Str))]) then
(ix (s7++[(([] : Str),([] : Str))]) (w64 ((List.length (s7++[(([] : Str),([] : Str))]) : Int) - 1))).bind fun x33 =>
some (.inl ((Int.toNat (w64 ((List.length (s7++[(([] : Str),([] : Str))]) : Int) - 1))),false,s6,(s7++[(([] : Str),([] : Str))])))
else none)
else
(bif (!(decide (((UInt8.toNat x29 : Nat) : Int)=46))||Option.isSome (ix s7 (w64 ((List.length s7 : Int) - 1)))) then
bif (decide (((UInt8.toNat x29 : Nat) : Int)=46))&&(decide (s4 * 2+(bif s5 then 1 else 0)=(Int.toNat (w64 ((List.length s7 : Int) - 1))) * 2+0)) then
((ix s7 (w64 ((List.length s7 : Int) - 1))).bind fun x37 =>
some (.inl ((Int.toNat (w64 ((List.length s7 : Int) - 1))),true,s6,s7)))
else
(bif (decide (((UInt8.toNat x29 : Nat) : Int)=92))&&(decide ((w64 (s6+1)) < (List.length p0 : Int))) then
((ix s7 (s4:Int)).bind fun x40 =>
bif slOk (w64 (s6+1)) (w64 ((w64 (s6+1))+1)) (List.length p0) then
bif strOk (List.length (bif s5 then x40.2 else x40.1)+List.length ((p0.take (Int.toNat (w64 ((w64 (s6+1))+1)))).drop (Int.toNat (w64 (s6+1))))) then
some (.inl (s4,s5,(w64 (s6+1)),(s7.set s4 (two_set x40 s5 ((bif s5 then x40.2 else x40.1)++((p0.take (Int.toNat (w64 ((w64 (s6+1))+1)))).drop (Int.toNat (w64 (s6+1)))))))))
else none
else none)
else
((ix s7 (s4:Int)).bind fun x44 =>
bif slOk s6 (w64 (s6+1)) (List.length p0) then
bif strOk (List.length (bif s5 then x44.2 else x44.1)+List.length ((p0.take (Int.toNat (w64 (s6+1)))).drop (Int.toNat s6))) then
some (.inl (s4,s5,s6,(s7.set s4 (two_set x44 s5 ((bif s5 then x44.2 else x44.1)++((p0.take (Int.toNat (w64 (s6+1)))).drop (Int.toNat s6)))))))
else none
else none))
else none)) : Option ((Nat×Bool×Int×(ZN)) ⊕ Unit)).bind fun o27=>match o27 with
| .inl (s23,s24,s25,s26)=>(bif (!(!(decide (20 < (List.length s26 : Int))))||Option.isSome (ix s26 (s23:Int))) then
bif (decide (20 < (List.length s26 : Int)))||(decide (32 < (List.length (bif s24 then (((ix s26 (s23:Int)).getD default)).2 else (((ix s26 (s23:Int)).getD default)).1) : Int))) then
(some (.inr (.inl ())))
else
(some (.inl (s23,s24,(w64 (s25+1)),s26)))
else none)
| .inr _=>none)
else
(some (.inr (.inr s7))))
def f7 (p0:Str) : Option ((ZN)×Int) :=
bif decide (65536 < (List.length p0 : Int)) then
(some (([] : ZN),3))
else
((ix [(([] : Str),([] : Str))] 0).bind fun x2 =>
(lrun (f7_b0 p0) (List.length p0+1) ((Int.toNat 0),false,0,[(([] : Str),([] : Str))])).bind fun o16=>match o16 with
| .inl ()=>(some (([] : ZN),2))
| .inr s15=>((f9 s15).bind fun x18 =>
bif (!(!(!x18))||Option.isSome (f17 s15)) then
bif (!x18)||(!decide (((f17 s15).getD default)=p0)) then
(some (([] : ZN),2))
else
(some (s15,0))
else none))
def f14  : Option (Unit) :=
some ()
def f26 (p0:ZP) (p1:Int) (p2:ZN) : Option (Int) :=
bif (!(!false)||Option.isSome (f9 p2)) then
bif false||(!((f9 p2).getD default)) then
(some 1)
else
(bif !((mget p0.1 p1).isSome) then
(some 7)
else
(some 0))
else none
def g38_b0 (p0:ZP) (p2:ZN) (i2:Int) (s3:(ZM)) : Option (((ZM)) ⊕ (Int×Int×Int)) :=
(((ix ((p2.take (Int.toNat (w64 ((List.length p2 : Int) - 1)))).drop (Int.toNat 0)) i2).bind fun x18 =>
bif isIf ((mget s3 x18).getD ifN) then
bif (isN ((mget s3 x18).getD ifN)) then
(some (.inr (8,1)))
else
((asS 91 ((mget s3 x18).getD ifN)).bind fun x22 =>
bif x22.2 then
(some (.inr (10,2)))
else
((asI 86 .i64 ((mget s3 x18).getD ifN)).bind fun x25 =>
bif x25.2 then
(bif !((mget p0.1 x25.1).isSome) then
(some (.inr (8,1)))
else
(some (.inl ((mget p0.1 x25.1).getD []))))
else
(some (.inl s3))))
else none) : Option (((ZM)) ⊕ (Int×Int))).bind fun o16=>match o16 with
| .inl s13=>(some (.inl s13))
| .inr (s14,s15)=>(some (.inr (s14,i2,s15)))
def g38 (p0:ZP) (p1:Int) (p2:ZN) : Option ((ZM)×(Int×Int)×Int) :=
bif slOk 0 (w64 ((List.length p2 : Int) - 1)) (List.length p2) then
(rng (g38_b0 p0 p2) (Int.toNat (List.length ((p2.take (Int.toNat (w64 ((List.length p2 : Int) - 1)))).drop (Int.toNat 0)) : Int)) 0 ((mget p0.1 p1).getD [])).bind fun o10=>match o10 with
| .inl s3=>(some (s3,(0,0),0))
| .inr (s7,s8,s9)=>(some ([],(s8,s9),s7))
else none
def g38o_b0 (p0_0:ZP) (p2:ZN) (i4:Int) (s6:Int) : Option (Int ⊕ (Int×Int×Int)) :=
(((ix ((p2.take (Int.toNat (w64 ((List.length p2 : Int) - 1)))).drop (Int.toNat 0)) i4).bind fun x20 =>
bif isIf ((mget ((mget p0_0.1 s6).getD []) x20).getD ifN) then
bif (isN ((mget ((mget p0_0.1 s6).getD []) x20).getD ifN)) then
(bif (mget p0_0.1 s6).isSome then
some (.inr (8,1))
else none)
else
((asS 91 ((mget ((mget p0_0.1 s6).getD []) x20).getD ifN)).bind fun x25 =>
bif x25.2 then
(bif (mget p0_0.1 s6).isSome then
some (.inr (10,2))
else none)
else
((asI 86 .i64 ((mget ((mget p0_0.1 s6).getD []) x20).getD ifN)).bind fun x29 =>
bif x29.2 then
(bif (mget p0_0.1 x29.1).isSome then
(bif (mget p0_0.1 s6).isSome then
some (.inl x29.1)
else none)
else
(bif (mget p0_0.1 s6).isSome then
some (.inr (8,1))
else none))
else
(some (.inl s6))))
else none) : Option (Int ⊕ (Int×Int))).bind fun o18=>match o18 with
| .inl s15=>(some (.inl s15))
| .inr (s16,s17)=>(some (.inr (s16,i4,s17)))
def g38o (p0_0:ZP) (p1:Int) (p2:ZN) : Option (((Int×Int)×Int) ⊕ Int) :=
bif (mget p0_0.1 p1).isSome then
bif slOk 0 (w64 ((List.length p2 : Int) - 1)) (List.length p2) then
(rng (g38o_b0 p0_0 p2) (Int.toNat (List.length ((p2.take (Int.toNat (w64 ((List.length p2 : Int) - 1)))).drop (Int.toNat 0)) : Int)) 0 p1).bind fun o12=>match o12 with
| .inl s6=>(some (.inr s6))
| .inr (s9,s10,s11)=>(some (.inl ((s10,s11),s9)))
else none
else none
def g40 (p0_0:ZP) (p1:Int) (p2:ZN) (p3:zDL) (p4:Bool) : Option ((Int×Int)×Int×(ZP)) :=
(f26 p0_0 p1 p2).bind fun x2 =>
bif !decide (x2=0) then
(some ((0,0),x2,p0_0))
else
((((asS 91 p3).bind fun x8 =>
bif x8.2 then
(bif decide (65536 < (List.length x8.1 : Int)) then
(some (.inr 1))
else
(some (.inl ())))
else
((asI 86 .i64 p3).bind fun x12 =>
bif x12.2 then
(bif !((mget p0_0.1 x12.1).isSome) then
(some (.inr 7))
else
(some (.inl ())))
else
(some (.inl ())))) : Option (Unit ⊕ Int)).bind fun o6=>match o6 with
| .inl ()=>((g38o p0_0 p1 p2).bind fun o16=>match o16 with
| .inl x18=>(bif !decide (x18.2=0) then
(some (x18.1,x18.2,p0_0))
else
((ix p2 (w64 ((List.length p2 : Int) - 1))).bind fun x21 =>
none))
| .inr x19=>((ix p2 (w64 ((List.length p2 : Int) - 1))).bind fun x23 =>
((bif ((mget ((mget p0_0.1 x19).getD []) x23).isSome)&&(!p4) then
(bif (mget p0_0.1 x19).isSome then
some (.inr (6,0,0))
else none)
else
(bif (!((mget ((mget p0_0.1 x19).getD []) x23).isSome)||Option.isSome (inv2 91 86 (2:Int) 3 ((mget ((mget p0_0.1 x19).getD []) x23).getD ifN))) then
bif (!((mget ((mget p0_0.1 x19).getD []) x23).isSome)||Option.isSome (inv2 91 86 (2:Int) 3 p3)) then
bif ((mget ((mget p0_0.1 x19).getD []) x23).isSome)&&(!decide (((inv2 91 86 (2:Int) 3 ((mget ((mget p0_0.1 x19).getD []) x23).getD ifN)).getD default)=((inv2 91 86 (2:Int) 3 p3).getD default))) then
((inv2 91 86 (2:Int) 3 ((mget ((mget p0_0.1 x19).getD []) x23).getD ifN)).bind fun x36 =>
bif (mget p0_0.1 x19).isSome then
some (.inr (10,(w64 ((List.length p2 : Int) - 1)),x36))
else none)
else
(bif (!((mget ((mget p0_0.1 x19).getD []) x23).isSome))&&(decide (p0_0.2.2=2000)) then
(bif (mget p0_0.1 x19).isSome then
some (.inr (4,0,0))
else none)
else
(bif !((mget ((mget p0_0.1 x19).getD []) x23).isSome) then
(some (.inl (w64 (p0_0.2.2+1))))
else
(some (.inl p0_0.2.2))))
else none
else none)) : Option (Int ⊕ (Int×Int×Int))).bind fun o29=>match o29 with
| .inl s25=>(bif (mget p0_0.1 x19).isSome then
some ((0,0),0,((mset p0_0.1 x19 (mset ((mget p0_0.1 x19).getD []) x23 p3)),p0_0.2.1,s25))
else none)
| .inr (s26,s27,s28)=>(some ((s27,s28),s26,p0_0))))
| .inr s5=>(some ((0,0),s5,p0_0)))
def g23 (p0_0:ZP) (p1:Int) (p2:ZN) (p3:Int) : Option ((Int×Int)×Int×(ZP)) :=
(g40 p0_0 p1 p2 (ifI 86 .i64 p3) false).bind fun x2 =>
some (x2.1,x2.2.1,x2.2.2)
def f28 (p0:Str×Str) (p1:zDL) : Option ((ZB)) :=
(((asS 91 p1).bind fun x6 =>
bif x6.2 then
(some (.inl (x6.1,0,false)))
else
((asI 86 .i64 p1).bind fun x9 =>
bif x9.2 then
(some (.inl (([] : Str),x9.1,true)))
else
(some (.inl (([] : Str),0,false))))) : Option ((Str×Int×Bool) ⊕ Unit)).bind fun o4=>match o4 with
| .inl (s1,s2,s3)=>(some (p0,s1,s2,s3))
| .inr _=>none
def f16 (p0:ZP) (p1:Int) (p2:ZN) : Option ((ZB)×(Int×Int)×Int) :=
(f26 p0 p1 p2).bind fun x1 =>
bif !decide (x1=0) then
(some (((([] : Str),([] : Str)),([] : Str),0,false),(0,0),x1))
else
((g38 p0 p1 p2).bind fun x4 =>
bif !decide (x4.2.2=0) then
(some (((([] : Str),([] : Str)),([] : Str),0,false),x4.2.1,x4.2.2))
else
((ix p2 (w64 ((List.length p2 : Int) - 1))).bind fun x22 =>
(((asI 86 .i64 ((mget x4.1 x22).getD ifN)).bind fun x27 =>
bif x27.2 then
(some (.inl ((mget p0.1 x27.1).isSome)))
else
(some (.inl ((mget x4.1 x22).isSome)))) : Option (Bool ⊕ Unit)).bind fun o25=>match o25 with
| .inl s24=>(bif !s24 then
(some (((([] : Str),([] : Str)),([] : Str),0,false),((w64 ((List.length p2 : Int) - 1)),1),8))
else
((f28 x22 ((mget x4.1 x22).getD ifN)).bind fun x31 =>
some (x31,(0,0),0)))
| .inr _=>none))
def g7  : Option (Bool) :=
(f7 ([97,46,98,47,99,92,46,100] : Str)).bind fun x1 =>
(f14).bind fun x3 =>
(g23 ((mset [] 0 []),1,0) 0 [(([120] : Str),([] : Str))] 0).bind fun x5 =>
(f16 x5.2.2 0 [(([120] : Str),([] : Str)),(([120] : Str),([] : Str))]).bind fun x7 =>
bif (!((decide (x1.2=0))&&(decide ((List.length x1.1 : Int)=2)))||Option.isSome (ix x1.1 0)) then
bif (!(((decide (x1.2=0))&&(decide ((List.length x1.1 : Int)=2)))&&((decide (bstr ((((ix x1.1 0).getD default)).1)=bstr ([97] : Str)))&&(decide (bstr ((((ix x1.1 0).getD default)).2)=bstr ([98] : Str)))))||Option.isSome (ix x1.1 1)) then
some ((((((((decide (x1.2=0))&&(decide ((List.length x1.1 : Int)=2)))&&((decide (bstr ((((ix x1.1 0).getD default)).1)=bstr ([97] : Str)))&&(decide (bstr ((((ix x1.1 0).getD default)).2)=bstr ([98] : Str)))))&&((decide (bstr ((((ix x1.1 1).getD default)).1)=bstr ([99,46,100] : Str)))&&(decide (bstr ((((ix x1.1 1).getD default)).2)=bstr ([] : Str)))))&&(decide (x5.2.1=0)))&&(decide (x7.2.2=0)))&&x7.1.2.2.2)&&(decide (x7.1.2.2.1=0)))
else none
else none
def g9  : Option (Unit) :=
some ()
def g24 (p0_0:ZP) : Option (Int×Int×(ZP)) :=
bif decide ((List.length p0_0.1 : Int)=1000) then
(some (0,4,p0_0))
else
(some ((w64 ((w64 (p0_0.2.1+1)) - 1)),0,((mset p0_0.1 p0_0.2.1 []),(w64 (p0_0.2.1+1)),p0_0.2.2)))
def g25 (p0_0:ZQ) : Option (Int×Int×(ZQ)) :=
bif decide (1000≤(List.length p0_0.1 : Int)) then
(some (0,4,p0_0))
else
(bif apOk 32 (List.length p0_0.1+List.length [(p0_0.2,([] : ZE))]) then
some ((w64 ((w64 (p0_0.2+1)) - 1)),0,((p0_0.1++[(p0_0.2,([] : ZE))]),(w64 (p0_0.2+1))))
else none)
def g12 (p0_0:ZP) (p1:Int) (p2:ZN) (p3:Str) : Option ((Int×Int)×Int×(ZP)) :=
(g40 p0_0 p1 p2 (ifS 91 p3) false).bind fun x2 =>
some (x2.1,x2.2.1,x2.2.2)
def f22_b1 (x6:Str) (i9:Int) (s:Unit) : Option (Unit ⊕ Unit) :=
(ix x6 i9).bind fun x15 =>
bif (!(!(decide (((UInt8.toNat x15 : Nat) : Int) < 33)))||Option.isSome (ix x6 i9)) then
bif (decide (((UInt8.toNat x15 : Nat) : Int) < 33))||(decide (126 < ((UInt8.toNat ((ix x6 i9).getD default) : Nat) : Int))) then
(some (.inr ()))
else
(some (.inl ()))
else none
def f22_b0 (p0:Str×Str) (i1:Int) (s:Unit) : Option (Unit ⊕ Unit) :=
(ix [p0.1,p0.2] i1).bind fun x6 =>
bif decide (32 < (List.length x6 : Int)) then
(some (.inr ()))
else
(bif decide ((List.length x6 : Int)≤9223372036854775807) then
(rng (f22_b1 x6) (Int.toNat (List.length x6 : Int)) 0 ()).bind fun o12=>match o12 with
| .inl ()=>(some (.inl ()))
| .inr ()=>(some (.inr ()))
else none)
def f22 (p0:Str×Str) : Option (Bool) :=
(rng (f22_b0 p0) (Int.toNat (List.length [p0.1,p0.2] : Int)) 0 ()).bind fun o3=>match o3 with
| .inl ()=>(some ((!decide (p0.1=([] : Str)))||(!decide (p0.2=([] : Str)))))
| .inr ()=>(some false)
def f10_b0 (p0:ZN) (i1:Int) (s:Unit) : Option (Unit ⊕ Unit) :=
(ix p0 i1).bind fun x6 =>
(f22 x6).bind fun x8 =>
bif !x8 then
(some (.inr ()))
else
(some (.inl ()))
def f10 (p0:ZN) : Option (Bool) :=
(rng (f10_b0 p0) (Int.toNat (List.length p0 : Int)) 0 ()).bind fun o3=>match o3 with
| .inl ()=>(some ((decide (1≤(List.length p0 : Int)))&&(decide ((List.length p0 : Int)≤20))))
| .inr ()=>(some false)
def g51_b0 (p0:ZQ) (p1:Int) (i1:Int) (s:Unit) : Option (Unit ⊕ (Int×(ZE))) :=
(ix p0.1 i1).bind fun x8 =>
bif decide (x8.1=p1) then
(some (.inr (x8.1,x8.2)))
else
(some (.inl ()))
def g51 (p0:ZQ) (p1:Int) : Option ((Option (ZR))) :=
(rng (g51_b0 p0 p1) (Int.toNat (List.length p0.1 : Int)) 0 ()).bind fun o5=>match o5 with
| .inl ()=>(some none)
| .inr (s3,s4)=>(some (some (s3,s4)))
def g51o_b0 (p0_0:ZQ) (p1:Int) (i2:Int) (s:Unit) : Option (Unit ⊕ Nat) :=
(ix p0_0.1 i2).bind fun x8 =>
bif decide (x8.1=p1) then
(some (.inr (Int.toNat i2)))
else
(some (.inl ()))
def g51o (p0_0:ZQ) (p1:Int) : Option (Unit ⊕ Nat) :=
(rng (g51o_b0 p0_0 p1) (Int.toNat (List.length p0_0.1 : Int)) 0 ()).bind fun o5=>match o5 with
| .inl ()=>(some (.inl ()))
| .inr s4=>(some (.inr s4))
def f13 (p0:Str×Str) (p1:Str×Str) : Option (Int) :=
(f22 p0).bind fun x1 =>
bif (!(!(!x1))||Option.isSome (f22 p1)) then
bif (!x1)||(!((f22 p1).getD default)) then
(some 0)
else
((fCmp p0.1 p1.1).bind fun x5 =>
bif !decide (x5=0) then
(some x5)
else
((fCmp p0.2 p1.2).bind fun x8 =>
some x8))
else none
def g62_b0 (p1:Str×Str) (x1:ZR) (i3:Int) (s:Unit) : Option (Unit ⊕ (Int×Bool)) :=
(ix x1.2 i3).bind fun x12 =>
(f13 x12.1 p1).bind fun x14 =>
bif decide (0≤x14) then
(some (.inr (i3,decide (x14=0))))
else
(some (.inl ()))
def g62 (p0:Option (ZR)) (p1:Str×Str) : Option (Int×Bool) :=
(p0).bind fun x1 =>
(rng (g62_b0 p1 x1) (Int.toNat (List.length x1.2 : Int)) 0 ()).bind fun o7=>match o7 with
| .inl ()=>((p0).bind fun x9 =>
some ((List.length x9.2 : Int),false))
| .inr (s5,s6)=>(some (s5,s6))
def g62o_b0 (p1:Str×Str) (x1:ZR) (i3:Int) (s:Unit) : Option (Unit ⊕ (Int×Bool)) :=
(ix x1.2 i3).bind fun x12 =>
(f13 x12.1 p1).bind fun x14 =>
bif decide (0≤x14) then
(some (.inr (i3,decide (x14=0))))
else
(some (.inl ()))
def g62o (p0_0:ZL) (p0z:Nat) (p1:Str×Str) : Option (Int×Bool) :=
(ix p0_0 (p0z:Int)).bind fun x1 =>
(rng (g62o_b0 p1 x1) (Int.toNat (List.length x1.2 : Int)) 0 ()).bind fun o7=>match o7 with
| .inl ()=>((ix p0_0 (p0z:Int)).bind fun x9 =>
some ((List.length x9.2 : Int),false))
| .inr (s5,s6)=>(some (s5,s6))
def g61_b0 (p0:ZQ) (p2:ZN) (i4:Int) (s5:(Option (ZR))) : Option (((Option (ZR))) ⊕ (Int×Int×Int)) :=
(ix ((p2.take (Int.toNat (w64 ((List.length p2 : Int) - 1)))).drop (Int.toNat 0)) i4).bind fun x15 =>
(g62 s5 x15).bind fun x17 =>
bif !x17.2 then
(some (.inr (8,i4,1)))
else
((s5).bind fun x20 =>
(ix x20.2 x17.1).bind fun x22 =>
bif !x22.2.2.2 then
(some (.inr (10,i4,2)))
else
((s5).bind fun x25 =>
(ix x25.2 x17.1).bind fun x27 =>
(g51 p0 x27.2.2.1).bind fun x29 =>
bif (Option.isNone x29) then
(some (.inr (8,i4,1)))
else
(some (.inl x29))))
def g61 (p0:ZQ) (p1:Int) (p2:ZN) : Option ((Option (ZR))×(Int×Int)×Int) :=
(g51 p0 p1).bind fun x1 =>
bif slOk 0 (w64 ((List.length p2 : Int) - 1)) (List.length p2) then
(rng (g61_b0 p0 p2) (Int.toNat (List.length ((p2.take (Int.toNat (w64 ((List.length p2 : Int) - 1)))).drop (Int.toNat 0)) : Int)) 0 x1).bind fun o12=>match o12 with
| .inl s5=>(some (s5,(0,0),0))
| .inr (s9,s10,s11)=>(some (none,(s10,s11),s9))
else none
def g61o_b0 (p0_0:ZQ) (p2:ZN) (i7:Int) (s8:Nat) : Option (Nat ⊕ (Int×Int×Int)) :=
(ix ((p2.take (Int.toNat (w64 ((List.length p2 : Int) - 1)))).drop (Int.toNat 0)) i7).bind fun x18 =>
(g62o p0_0.1 s8 x18).bind fun x20 =>
bif !x20.2 then
(some (.inr (8,i7,1)))
else
((ix p0_0.1 (s8:Int)).bind fun x23 =>
(ix x23.2 x20.1).bind fun x25 =>
bif !x25.2.2.2 then
(some (.inr (10,i7,2)))
else
((g51o p0_0 x25.2.2.1).bind fun o28=>match o28 with
| .inl x30=>(some (.inr (8,i7,1)))
| .inr x31=>(some (.inl x31))))
def g61o (p0_0:ZQ) (p1:Int) (p2:ZN) : Option (((Int×Int)×Int) ⊕ Nat) :=
(g51o p0_0 p1).bind fun o2=>match o2 with
| .inl x4=>(none)
| .inr x5=>(bif slOk 0 (w64 ((List.length p2 : Int) - 1)) (List.length p2) then
(rng (g61o_b0 p0_0 p2) (Int.toNat (List.length ((p2.take (Int.toNat (w64 ((List.length p2 : Int) - 1)))).drop (Int.toNat 0)) : Int)) 0 x5).bind fun o15=>match o15 with
| .inl s8=>(some (.inr s8))
| .inr (s12,s13,s14)=>(some (.inl ((s13,s14),s12)))
else none)
def g63_b0 (p0:ZQ) (i1:Int) (s2:Int) : Option (Int ⊕ Unit) :=
(ix p0.1 i1).bind fun x9 =>
some (.inl (w64 (s2+(List.length x9.2 : Int))))
def g63 (p0:ZQ) : Option (Int) :=
(rng (g63_b0 p0) (Int.toNat (List.length p0.1 : Int)) 0 0).bind fun o6=>match o6 with
| .inl s2=>(some s2)
| .inr _=>none
def g64 (p0_0:ZL) (p0z:Nat) (p1:ZB) : Option ((ZL)) :=
(g62o p0_0 p0z p1.1).bind fun x2 =>
(ix p0_0 (p0z:Int)).bind fun x4 =>
bif slOk 0 x2.1 (List.length x4.2) then
bif apOk 64 (List.length ((x4.2.take (Int.toNat x2.1)).drop (Int.toNat 0))) then
bif apOk 64 (List.length ((x4.2.take (Int.toNat x2.1)).drop (Int.toNat 0))+List.length [p1]) then
((bif x2.2 then
(some (.inl (w64 (x2.1+1))))
else
(some (.inl x2.1))) : Option (Int ⊕ Unit)).bind fun o10=>match o10 with
| .inl s9=>((ix p0_0 (p0z:Int)).bind fun x13 =>
bif slOk s9 (List.length x13.2 : Int) (List.length x13.2) then
bif apOk 64 (List.length (((x4.2.take (Int.toNat x2.1)).drop (Int.toNat 0))++[p1])+List.length ((x13.2.take (Int.toNat (List.length x13.2 : Int))).drop (Int.toNat s9))) then
some (p0_0.set p0z (x13.1,((((x4.2.take (Int.toNat x2.1)).drop (Int.toNat 0))++[p1])++((x13.2.take (Int.toNat (List.length x13.2 : Int))).drop (Int.toNat s9)))))
else none
else none)
| .inr _=>none
else none
else none
else none
def g26 (p0_0:ZQ) (p1:Int) (p2:ZN) (p3:ZB) (p4:Bool) : Option ((Int×Int)×Int×(ZQ)) :=
(f10 p2).bind fun x2 =>
bif (!x2)||((!p3.2.2.2)&&(decide (65536 < (List.length p3.2.1 : Int)))) then
(some ((0,0),1,p0_0))
else
((g51 p0_0 p1).bind fun x5 =>
bif (!((!(Option.isNone (Option.map (fun _=>()) x5)))&&p3.2.2.2)||Option.isSome (g51 p0_0 p3.2.2.1)) then
bif (Option.isNone (Option.map (fun _=>()) x5))||(p3.2.2.2&&(Option.isNone (Option.map (fun _=>()) ((g51 p0_0 p3.2.2.1).getD default)))) then
(some ((0,0),7,p0_0))
else
((g61o p0_0 p1 p2).bind fun o9=>match o9 with
| .inl x11=>(bif !decide (x11.2=0) then
(some (x11.1,x11.2,p0_0))
else
((ix p2 (w64 ((List.length p2 : Int) - 1))).bind fun x14 =>
(g62 none x14).bind fun x16 =>
bif x16.2&&(!p4) then
(some ((0,0),6,p0_0))
else
(none)))
| .inr x12=>((ix p2 (w64 ((List.length p2 : Int) - 1))).bind fun x19 =>
(g62o p0_0.1 x12 x19).bind fun x21 =>
bif x21.2&&(!p4) then
(some ((0,0),6,p0_0))
else
(bif (!x21.2||Option.isSome (ix p0_0.1 (x12:Int))) then
bif (!x21.2||Option.isSome (ix ((((ix p0_0.1 (x12:Int)).getD default)).2) x21.1)) then
bif (x21.2&&((((((ix ((((ix p0_0.1 (x12:Int)).getD default)).2) x21.1).getD default)).2).2).2))&&(!p3.2.2.2) then
(some (((w64 ((List.length p2 : Int) - 1)),3),10,p0_0))
else
(bif (!x21.2||Option.isSome (ix p0_0.1 (x12:Int))) then
bif (!x21.2||Option.isSome (ix ((((ix p0_0.1 (x12:Int)).getD default)).2) x21.1)) then
bif (x21.2&&(!((((((ix ((((ix p0_0.1 (x12:Int)).getD default)).2) x21.1).getD default)).2).2).2)))&&p3.2.2.2 then
(some (((w64 ((List.length p2 : Int) - 1)),2),10,p0_0))
else
(bif (!(!x21.2)||Option.isSome (g63 p0_0)) then
bif (!x21.2)&&(decide (2000≤((g63 p0_0).getD default))) then
(some ((0,0),4,p0_0))
else
((g64 p0_0.1 x12 (x19,p3.2.1,p3.2.2.1,p3.2.2.2)).bind fun x32 =>
some ((0,0),0,(x32,p0_0.2)))
else none)
else none
else none)
else none
else none)))
else none)
def g13 (p0_0:ZP) (p1:Int) (p2:ZN) (p3:Str) : Option ((Int×Int)×Int×(ZP)) :=
(g40 p0_0 p1 p2 (ifS 91 p3) true).bind fun x2 =>
some (x2.1,x2.2.1,x2.2.2)
def g27 (p0_0:ZP) (p1:Int) (p2:ZN) (p3:Int) : Option ((Int×Int)×Int×(ZP)) :=
(g40 p0_0 p1 p2 (ifI 86 .i64 p3) true).bind fun x2 =>
some (x2.1,x2.2.1,x2.2.2)
def g14 (p0_0:ZP) (p1:Int) (p2:ZN) : Option ((Int×Int)×Int×(ZP)) :=
(f26 p0_0 p1 p2).bind fun x2 =>
bif !decide (x2=0) then
(some ((0,0),x2,p0_0))
else
((g38o p0_0 p1 p2).bind fun o5=>match o5 with
| .inl x7=>(bif !decide (x7.2=0) then
(some (x7.1,x7.2,p0_0))
else
((ix p2 (w64 ((List.length p2 : Int) - 1))).bind fun x10 =>
none))
| .inr x8=>((ix p2 (w64 ((List.length p2 : Int) - 1))).bind fun x12 =>
bif !((mget ((mget p0_0.1 x8).getD []) x12).isSome) then
(bif (mget p0_0.1 x8).isSome then
some (((w64 ((List.length p2 : Int) - 1)),1),8,p0_0)
else none)
else
(bif (mget p0_0.1 x8).isSome then
some ((0,0),0,((mset p0_0.1 x8 (mdel ((mget p0_0.1 x8).getD []) x12)),p0_0.2.1,(w64 (p0_0.2.2 - 1))))
else none)))
def g28 (p0_0:ZP) (p1:Int) (p2:ZN) : Option (Int×(Int×Int)×Int×(ZP)) :=
(g40 p0_0 p1 p2 (ifI 86 .i64 0) false).bind fun x2 =>
bif !decide (x2.2.1=0) then
(some (0,x2.1,x2.2.1,x2.2.2))
else
((g24 x2.2.2).bind fun x5 =>
bif !decide (x5.2.1=0) then
((g14 x5.2.2 p1 p2).bind fun x8 =>
some (0,(0,0),x5.2.1,x8.2.2))
else
((g27 x5.2.2 p1 p2 x5.1).bind fun x10 =>
some (x5.1,(0,0),0,x10.2.2)))
def g65 (p0:ZQ) (p1:Int) (p2:ZN) : Option (Int) :=
(f10 p2).bind fun x1 =>
bif !x1 then
(some 1)
else
((g51 p0 p1).bind fun x4 =>
bif (Option.isNone x4) then
(some 7)
else
(some 0))
def g29 (p0_0:ZQ) (p1:Int) (p2:ZN) : Option (Int×(Int×Int)×Int×(ZQ)) :=
(g65 p0_0 p1 p2).bind fun x2 =>
bif !decide (x2=0) then
(some (0,(0,0),x2,p0_0))
else
((g61o p0_0 p1 p2).bind fun o5=>match o5 with
| .inl x7=>(bif !decide (x7.2=0) then
(some (0,x7.1,x7.2,p0_0))
else
((ix p2 (w64 ((List.length p2 : Int) - 1))).bind fun x10 =>
(g62 none x10).bind fun x12 =>
bif x12.2 then
(some (0,(0,0),6,p0_0))
else
(bif (!(!(decide (1000≤(List.length p0_0.1 : Int))))||Option.isSome (g63 p0_0)) then
bif (decide (1000≤(List.length p0_0.1 : Int)))||(decide (2000≤((g63 p0_0).getD default))) then
(some (0,(0,0),4,p0_0))
else
(none)
else none)))
| .inr x8=>((ix p2 (w64 ((List.length p2 : Int) - 1))).bind fun x17 =>
(g62o p0_0.1 x8 x17).bind fun x19 =>
bif x19.2 then
(some (0,(0,0),6,p0_0))
else
(bif (!(!(decide (1000≤(List.length p0_0.1 : Int))))||Option.isSome (g63 p0_0)) then
bif (decide (1000≤(List.length p0_0.1 : Int)))||(decide (2000≤((g63 p0_0).getD default))) then
(some (0,(0,0),4,p0_0))
else
((g64 p0_0.1 x8 (x17,([] : Str),p0_0.2,true)).bind fun x24 =>
(g25 (x24,p0_0.2)).bind fun x26 =>
some (x26.1,(0,0),0,x26.2.2))
else none)))
def g30 (p0_0:ZQ) (p1:Int) (p2:ZN) : Option ((Int×Int)×Int×(ZQ)) :=
(g65 p0_0 p1 p2).bind fun x2 =>
bif !decide (x2=0) then
(some ((0,0),x2,p0_0))
else
((g61o p0_0 p1 p2).bind fun o5=>match o5 with
| .inl x7=>(bif !decide (x7.2=0) then
(some (x7.1,x7.2,p0_0))
else
((ix p2 (w64 ((List.length p2 : Int) - 1))).bind fun x10 =>
(g62 none x10).bind fun x12 =>
bif !x12.2 then
(some (((w64 ((List.length p2 : Int) - 1)),1),8,p0_0))
else
(none)))
| .inr x8=>((ix p2 (w64 ((List.length p2 : Int) - 1))).bind fun x15 =>
(g62o p0_0.1 x8 x15).bind fun x17 =>
bif !x17.2 then
(some (((w64 ((List.length p2 : Int) - 1)),1),8,p0_0))
else
((ix p0_0.1 (x8:Int)).bind fun x20 =>
bif slOk 0 x17.1 (List.length x20.2) then
bif apOk 64 (List.length ((x20.2.take (Int.toNat x17.1)).drop (Int.toNat 0))) then
bif slOk (w64 (x17.1+1)) (List.length x20.2 : Int) (List.length x20.2) then
bif apOk 64 (List.length ((x20.2.take (Int.toNat x17.1)).drop (Int.toNat 0))+List.length ((x20.2.take (Int.toNat (List.length x20.2 : Int))).drop (Int.toNat (w64 (x17.1+1))))) then
some ((0,0),0,((p0_0.1.set x8 (x20.1,(((x20.2.take (Int.toNat x17.1)).drop (Int.toNat 0))++((x20.2.take (Int.toNat (List.length x20.2 : Int))).drop (Int.toNat (w64 (x17.1+1))))))),p0_0.2))
else none
else none
else none
else none)))
def g41_b0 (p0:ZP) (p1:List Int) (i1:Int) (s:Unit) : Option (Unit ⊕ Unit) :=
(ix p1 i1).bind fun x6 =>
bif !((mget p0.1 x6).isSome) then
(some (.inr ()))
else
(some (.inl ()))
def g41 (p0:ZP) (p1:List Int) : Option (Int) :=
(rng (g41_b0 p0 p1) (Int.toNat (List.length p1 : Int)) 0 ()).bind fun o3=>match o3 with
| .inl ()=>(some 0)
| .inr ()=>(some 7)
def g31 (p0_0:ZP) (p1:Int) : Option (Int×(ZP)) :=
(g41 p0_0 [p1]).bind fun x2 =>
bif !decide (x2=0) then
(some (x2,p0_0))
else
(bif (mget p0_0.1 p1).isSome then
bif (decide (p1=0))||(decide (0 < (List.length ((mget p0_0.1 p1).getD []) : Int))) then
(some (9,p0_0))
else
(some (0,((mdel p0_0.1 p1),p0_0.2.1,p0_0.2.2)))
else none)
def g32_b0 (p0_0:ZQ) (p1:Int) (i8:Int) (s10:(ZL)) : Option (((ZL)) ⊕ Unit) :=
(((ix p0_0.1 i8).bind fun x19 =>
bif !decide (x19.1=p1) then
(bif apOk 32 (List.length s10+List.length [x19]) then
some (.inl (s10++[x19]))
else none)
else
(some (.inl s10))) : Option (((ZL)) ⊕ Unit)).bind fun o17=>match o17 with
| .inl s16=>(some (.inl s16))
| .inr _=>none
def g32 (p0_0:ZQ) (p1:Int) : Option (Int×(ZQ)) :=
(g51o p0_0 p1).bind fun o2=>match o2 with
| .inl x4=>(some (7,p0_0))
| .inr x5=>(bif (!(!(decide (p1=0)))||Option.isSome (ix p0_0.1 (x5:Int))) then
bif (decide (p1=0))||(decide (0 < (List.length ((((ix p0_0.1 (x5:Int)).getD default)).2) : Int))) then
(some (9,p0_0))
else
((rng (g32_b0 p0_0 p1) (Int.toNat (List.length p0_0.1 : Int)) 0 ([] : ZL)).bind fun o13=>match o13 with
| .inl s10=>(some (0,(s10,p0_0.2)))
| .inr _=>none)
else none)
def f35_b0 (p0:List Int) (i1:Int) (s:Unit) : Option (Unit ⊕ Int) :=
(ix p0 i1).bind fun x7 =>
bif !decide (x7=0) then
(some (.inr x7))
else
(some (.inl ()))
def f35 (p0:List Int) : Option (Int) :=
(rng (f35_b0 p0) (Int.toNat (List.length p0 : Int)) 0 ()).bind fun o4=>match o4 with
| .inl ()=>(some 0)
| .inr s3=>(some s3)
def f23 (p0:Str×Str) (p1:Str×Str) : Option (Int) :=
(fCmp p0.1 p1.1).bind fun x1 =>
(fCmp p0.2 p1.2).bind fun x3 =>
(f35 [x1,x3]).bind fun x5 =>
some x5
def g67_b0 {σ R:Type}(q:σ→(ZC×zDL)→Option (σ ⊕ R)) (p1:ZM) (x3:ZN) (i5:Int) (s7:σ) : Option (σ ⊕ R) :=
(ix x3 i5).bind fun x14 =>
(q s7 (x14,((mget p1 x14).getD ifN))).bind fun o16=>match o16 with
| .inl s18=>(some (.inl s18))
| .inr r19=>(some (.inr r19))
def g67 {σ R:Type}(q:σ→(ZC×zDL)→Option (σ ⊕ R)) (s0:σ) (p1:ZM) : Option (σ ⊕ R) :=
(zBs p1).bind fun x1 =>
(skeysC x1).bind fun x3 =>
(rng (g67_b0 q p1 x3) (Int.toNat (List.length x3 : Int)) 0 s0).bind fun o11=>match o11 with
| .inl s7=>(some (.inl s7))
| .inr s10=>(some (.inr s10))
def f67 (p0:ZM) : Option (Unit) :=
some ()
def g33_b0 (p2:Int) (p3:Int) (s:Int×(ZE)) (x:ZC×zDL) : Option ((Int×(ZE)) ⊕ Unit) :=
match x with
| (y18,y19)=>(match s with
| (s10,s11)=>(((bif (decide (p2≤s10))&&(decide ((List.length s11 : Int) < p3)) then
((f28 y18 y19).bind fun x24 =>
bif apOk 64 (List.length s11+List.length [x24]) then
some (.inl (s11++[x24]))
else none)
else
(some (.inl s11))) : Option (((ZE)) ⊕ Unit)).bind fun o21=>match o21 with
| .inl s20=>(some (.inl ((w64 (s10+1)),s20)))
| .inr _=>none))
def g33 (p0:ZP) (p1:Int) (p2:Int) (p3:Int) : Option (Int×Int×(ZE)) :=
(g41 p0 [p1]).bind fun x2 =>
bif !decide (x2=0) then
(some (0,x2,([] : ZE)))
else
(bif (decide (p2 < 0))||(decide (p3 < 0)) then
(some (0,7,([] : ZE)))
else
((f67 ((mget p0.1 p1).getD [])).bind fun x6 =>
(g67 (g33_b0 p2 p3) (0,([] : ZE)) ((mget p0.1 p1).getD [])).bind fun o16=>match o16 with
| .inl (s10,s11)=>(some (s10,0,s11))
| .inr _=>none))
def g34 (p0:ZQ) (p1:Int) (p2:Int) (p3:Int) : Option (Int×Int×(ZE)) :=
(g51 p0 p1).bind fun x2 =>
bif ((Option.isNone x2)||(decide (p2 < 0)))||(decide (p3 < 0)) then
(some (0,7,([] : ZE)))
else
((x2).bind fun x5 =>
(x2).bind fun x7 =>
(x2).bind fun x9 =>
bif slOk (min p2 (List.length x5.2 : Int)) (w64 ((min p2 (List.length x5.2 : Int))+(min p3 (w64 ((List.length x7.2 : Int) - (min p2 (List.length x5.2 : Int))))))) (List.length x9.2) then
bif apOk 64 (List.length ((x9.2.take (Int.toNat (w64 ((min p2 (List.length x5.2 : Int))+(min p3 (w64 ((List.length x7.2 : Int) - (min p2 (List.length x5.2 : Int))))))))).drop (Int.toNat (min p2 (List.length x5.2 : Int))))) then
(x2).bind fun x13 =>
some ((List.length x13.2 : Int),0,((x9.2.take (Int.toNat (w64 ((min p2 (List.length x5.2 : Int))+(min p3 (w64 ((List.length x7.2 : Int) - (min p2 (List.length x5.2 : Int))))))))).drop (Int.toNat (min p2 (List.length x5.2 : Int)))))
else none
else none)
def g35_b0 (p0:ZE) (p1:ZE) (i2:Int) (s:Unit) : Option (Unit ⊕ Unit) :=
(ix p0 i2).bind fun x7 =>
(ix p1 i2).bind fun x9 =>
bif !((decide (bstr x7.1.1=bstr x9.1.1))&&((decide (bstr x7.1.2=bstr x9.1.2))&&((decide (bstr x7.2.1=bstr x9.2.1))&&((decide (x7.2.2.1=x9.2.2.1))&&(decide (x7.2.2.2=x9.2.2.2)))))) then
(some (.inr ()))
else
(some (.inl ()))
def g35 (p0:ZE) (p1:ZE) : Option (Bool) :=
bif !decide ((List.length p0 : Int)=(List.length p1 : Int)) then
(some false)
else
((rng (g35_b0 p0 p1) (Int.toNat (List.length p0 : Int)) 0 ()).bind fun o4=>match o4 with
| .inl ()=>(some true)
| .inr ()=>(some false))
def g55_m0 (p1:ZP) (rec:Int→(ZP)→(List (Int×Bool))→Option ((List (Int×Bool)))) (s7:(List (Int×Bool))) (p13:ZC×zDL) : Option (((List (Int×Bool))) ⊕ Unit) :=
(asI 86 .i64 p13.2).bind fun x16 =>
bif x16.2 then
((rec x16.1 p1 s7).bind fun x19 =>
some (.inl x19))
else
(some (.inl s7))
def g55_m0_q (a b:((List (Int×Bool))) ⊕ Unit) : Prop :=
 match a,b with
 | .inl s7z,.inl s7=>s7z.Perm s7
 | .inr a,.inr b=>b=a
 | _,_=>False
def g55_r (n:Nat) (rec:Int→(ZP)→(List (Int×Bool))→Option ((List (Int×Bool)))) (p0:Int) (p1:ZP) (p2_0:List (Int×Bool)) : Option ((List (Int×Bool))) :=
bif (!((mget p1.1 p0).isSome))||((mget p2_0 p0).getD false) then
(some p2_0)
else
(bif visOk n p1.1 (mset p2_0 p0 true) then
(zBu (g55_m0 p1 rec) (mset p2_0 p0 true) ((mget p1.1 p0).getD [])).bind fun o9=>match o9 with
| .inl s7=>(some s7)
| .inr _=>none
else none)
def g55 : Nat→Int→(ZP)→(List (Int×Bool))→Option ((List (Int×Bool)))
 | 0,_,_,_=>none
 | n+1,p0,p1,p2_0=>g55_r n (g55 n) p0 p1 p2_0
def g18 (p0:ZP) (p1:Int) : Option (Int×List Int) :=
(g41 p0 [p1]).bind fun x2 =>
bif !decide (x2=0) then
(some (x2,([] : List Int)))
else
((g55 10000 p1 p0 []).bind fun x5 =>
(zBs x5).bind fun x7 =>
(skeys x7).bind fun x9 =>
some (0,x9))
def g52_b0 (p0:List Int) (p1:Int) (i1:Int) (s:Unit) : Option (Unit ⊕ Unit) :=
(ix p0 i1).bind fun x6 =>
bif decide (x6=p1) then
(some (.inr ()))
else
(some (.inl ()))
def g52 (p0:List Int) (p1:Int) : Option (Bool) :=
(rng (g52_b0 p0 p1) (Int.toNat (List.length p0 : Int)) 0 ()).bind fun o3=>match o3 with
| .inl ()=>(some false)
| .inr ()=>(some true)
def g19_b1 (p0:ZQ) (x20:ZR) (i22:Int) (s24:List Int) : Option ((List Int) ⊕ Unit) :=
(((ix x20.2 i22).bind fun x33 =>
bif (!x33.2.2.2||Option.isSome (g51 p0 x33.2.2.1)) then
bif (!(x33.2.2.2&&(!(Option.isNone ((g51 p0 x33.2.2.1).getD default))))||Option.isSome (g52 s24 x33.2.2.1)) then
bif (x33.2.2.2&&(!(Option.isNone ((g51 p0 x33.2.2.1).getD default))))&&(!((g52 s24 x33.2.2.1).getD default)) then
(bif apOk 8 (List.length s24+List.length [x33.2.2.1]) then
some (.inl (s24++[x33.2.2.1]))
else none)
else
(some (.inl s24))
else none
else none) : Option ((List Int) ⊕ Unit)).bind fun o31=>match o31 with
| .inl s30=>(some (.inl s30))
| .inr _=>none
def g19_b0 (p0:ZQ) (s:Int×List Int) : Option ((Int×List Int) ⊕ (List Int)) :=
match s with
| (s5,s6)=>(bif decide (s5 < (List.length s6 : Int)) then
((ix s6 s5).bind fun x16 =>
(g51 p0 x16).bind fun x18 =>
(x18).bind fun x20 =>
(rng (g19_b1 p0 x20) (Int.toNat (List.length x20.2 : Int)) 0 s6).bind fun o27=>match o27 with
| .inl s24=>(some (.inl ((w64 (s5+1)),s24)))
| .inr _=>none)
else
(some (.inr s6)))
def g19 (p0:ZQ) (p1:Int) : Option (Int×List Int) :=
(g51 p0 p1).bind fun x2 =>
bif (Option.isNone x2) then
(some (7,([] : List Int)))
else
((lrun (g19_b0 p0) (List.length p0.1+2) (0,[p1])).bind fun s10=>match s10 with
| s10=>((sortI s10).bind fun x13 =>
some (0,x13)))
def g21_b0 (p0:List Int) (p1:List Int) (i2:Int) (s:Unit) : Option (Unit ⊕ Unit) :=
(ix p0 i2).bind fun x7 =>
(ix p1 i2).bind fun x9 =>
bif !decide (x7=x9) then
(some (.inr ()))
else
(some (.inl ()))
def g21 (p0:List Int) (p1:List Int) : Option (Bool) :=
bif !decide ((List.length p0 : Int)=(List.length p1 : Int)) then
(some false)
else
((rng (g21_b0 p0 p1) (Int.toNat (List.length p0 : Int)) 0 ()).bind fun o4=>match o4 with
| .inl ()=>(some true)
| .inr ()=>(some false))
def g36 (p0:ZQ) (p1:Int) (p2:ZN) : Option ((ZB)×(Int×Int)×Int) :=
(g65 p0 p1 p2).bind fun x1 =>
bif !decide (x1=0) then
(some (((([] : Str),([] : Str)),([] : Str),0,false),(0,0),x1))
else
((g61 p0 p1 p2).bind fun x4 =>
bif !decide (x4.2.2=0) then
(some (((([] : Str),([] : Str)),([] : Str),0,false),x4.2.1,x4.2.2))
else
((ix p2 (w64 ((List.length p2 : Int) - 1))).bind fun x22 =>
(g62 x4.1 x22).bind fun x24 =>
bif (!(!(!x24.2))||Option.isSome (x4.1)) then
bif (!(!(!x24.2))||Option.isSome (ix ((((x4.1).getD default)).2) x24.1)) then
bif (!((!(!x24.2))&&((((((ix ((((x4.1).getD default)).2) x24.1).getD default)).2).2).2))||Option.isSome (x4.1)) then
bif (!((!(!x24.2))&&((((((ix ((((x4.1).getD default)).2) x24.1).getD default)).2).2).2))||Option.isSome (ix ((((x4.1).getD default)).2) x24.1)) then
bif (!((!(!x24.2))&&((((((ix ((((x4.1).getD default)).2) x24.1).getD default)).2).2).2))||Option.isSome (g51 p0 ((((((ix ((((x4.1).getD default)).2) x24.1).getD default)).2).2).1))) then
bif (!x24.2)||(((((((ix ((((x4.1).getD default)).2) x24.1).getD default)).2).2).2)&&(Option.isNone ((g51 p0 ((((((ix ((((x4.1).getD default)).2) x24.1).getD default)).2).2).1)).getD default))) then
(some (((([] : Str),([] : Str)),([] : Str),0,false),((w64 ((List.length p2 : Int) - 1)),1),8))
else
((x4.1).bind fun x32 =>
(ix x32.2 x24.1).bind fun x34 =>
some (x34,(0,0),0))
else none
else none
else none
else none
else none))
def g10 (p0_0:ZP) (p1_0:ZQ) (p2:ZX) : Option (Bool×(ZP)×(ZQ)) :=
((((bif decide (p2.1=1) then
(some (.inl (decide (p2.1=1))))
else
(some (.inl (decide (p2.1=2))))) : Option (Bool ⊕ Unit)).bind fun o17=>match o17 with
| .inl s16=>(bif s16 then
((g24 p0_0).bind fun x21 =>
(g25 p1_0).bind fun x23 =>
some (.inr ((decide (x21.1=x23.1))&&(decide (x21.2.1=x23.2.1)),x21.2.2,x23.2.2)))
else
(((bif decide (p2.1=3) then
(some (.inl (decide (p2.1=3))))
else
(some (.inl (decide (p2.1=4))))) : Option (Bool ⊕ Unit)).bind fun o26=>match o26 with
| .inl s25=>(bif s25 then
((g12 p0_0 p2.2.1 p2.2.2.2.2.1 p2.2.2.2.2.2).bind fun x30 =>
(g26 p1_0 p2.2.1 p2.2.2.2.2.1 ((([] : Str),([] : Str)),p2.2.2.2.2.2,0,false) false).bind fun x32 =>
some (.inl (x30.2.1,x32.2.1,x30.2.2,x32.2.2,x30.1.1,x30.1.2,x32.1.1,x32.1.2)))
else
(((bif decide (p2.1=5) then
(some (.inl (decide (p2.1=5))))
else
(some (.inl (decide (p2.1=6))))) : Option (Bool ⊕ Unit)).bind fun o35=>match o35 with
| .inl s34=>(bif s34 then
((g23 p0_0 p2.2.1 p2.2.2.2.2.1 p2.2.2.1).bind fun x39 =>
(g26 p1_0 p2.2.1 p2.2.2.2.2.1 ((([] : Str),([] : Str)),([] : Str),p2.2.2.1,true) false).bind fun x41 =>
some (.inl (x39.2.1,x41.2.1,x39.2.2,x41.2.2,x39.1.1,x39.1.2,x41.1.1,x41.1.2)))
else
(bif decide (p2.1=7) then
((g13 p0_0 p2.2.1 p2.2.2.2.2.1 p2.2.2.2.2.2).bind fun x44 =>
(g26 p1_0 p2.2.1 p2.2.2.2.2.1 ((([] : Str),([] : Str)),p2.2.2.2.2.2,0,false) true).bind fun x46 =>
some (.inl (x44.2.1,x46.2.1,x44.2.2,x46.2.2,x44.1.1,x44.1.2,x46.1.1,x46.1.2)))
else
(bif decide (p2.1=8) then
((g27 p0_0 p2.2.1 p2.2.2.2.2.1 p2.2.2.1).bind fun x49 =>
(g26 p1_0 p2.2.1 p2.2.2.2.2.1 ((([] : Str),([] : Str)),([] : Str),p2.2.2.1,true) true).bind fun x51 =>
some (.inl (x49.2.1,x51.2.1,x49.2.2,x51.2.2,x49.1.1,x49.1.2,x51.1.1,x51.1.2)))
else
(bif decide (p2.1=9) then
((g28 p0_0 p2.2.1 p2.2.2.2.2.1).bind fun x54 =>
(g29 p1_0 p2.2.1 p2.2.2.2.2.1).bind fun x56 =>
some (.inr (((decide (x54.1=x56.1))&&((decide (x54.2.1.1=x56.2.1.1))&&(decide (x54.2.1.2=x56.2.1.2))))&&(decide (x54.2.2.1=x56.2.2.1)),x54.2.2.2,x56.2.2.2)))
else
(bif decide (p2.1=10) then
((g14 p0_0 p2.2.1 p2.2.2.2.2.1).bind fun x59 =>
(g30 p1_0 p2.2.1 p2.2.2.2.2.1).bind fun x61 =>
some (.inl (x59.2.1,x61.2.1,x59.2.2,x61.2.2,x59.1.1,x59.1.2,x61.1.1,x61.1.2)))
else
(bif decide (p2.1=11) then
((g31 p0_0 p2.2.1).bind fun x64 =>
(g32 p1_0 p2.2.1).bind fun x66 =>
some (.inr (decide (x64.1=x66.1),x64.2,x66.2)))
else
(bif decide (p2.1=12) then
((g33 p0_0 p2.2.1 p2.2.2.1 p2.2.2.2.1).bind fun x93 =>
(g34 p1_0 p2.2.1 p2.2.2.1 p2.2.2.2.1).bind fun x95 =>
(g35 x93.2.2 x95.2.2).bind fun x97 =>
some (.inr ((x97&&(decide (x93.1=x95.1)))&&(decide (x93.2.1=x95.2.1)),p0_0,p1_0)))
else
(bif decide (p2.1=13) then
((g18 p0_0 p2.2.1).bind fun x100 =>
(g19 p1_0 p2.2.1).bind fun x102 =>
(g21 x100.2 x102.2).bind fun x104 =>
some (.inr (x104&&(decide (x100.1=x102.1)),p0_0,p1_0)))
else
((f16 p0_0 p2.2.1 p2.2.2.2.2.1).bind fun x106 =>
(g36 p1_0 p2.2.1 p2.2.2.2.2.1).bind fun x108 =>
some (.inr ((((decide (bstr x106.1.1.1=bstr x108.1.1.1))&&((decide (bstr x106.1.1.2=bstr x108.1.1.2))&&((decide (bstr x106.1.2.1=bstr x108.1.2.1))&&((decide (x106.1.2.2.1=x108.1.2.2.1))&&(decide (x106.1.2.2.2=x108.1.2.2.2))))))&&((decide (x106.2.1.1=x108.2.1.1))&&(decide (x106.2.1.2=x108.2.1.2))))&&(decide (x106.2.2=x108.2.2)),p0_0,p1_0)))))))))))
| .inr _=>none))
| .inr _=>none))
| .inr _=>none) : Option ((Int×Int×(ZP)×(ZQ)×Int×Int×Int×Int) ⊕ (Bool×(ZP)×(ZQ)))).bind fun o14=>match o14 with
| .inl (s3,s4,s5,s6,s7,s8,s9,s10)=>(some (((decide (s7=s9))&&(decide (s8=s10)))&&(decide (s3=s4)),s5,s6))
| .inr (s11,s12,s13)=>(some (s11,s12,s13))
def g3_b0 (p0:List (ZX)) (i11:Int) (s:(ZP)×(ZQ)) : Option (((ZP)×(ZQ)) ⊕ Unit) :=
match s with
| (s13,s14)=>((((ix p0 i11).bind fun x66 =>
bif !decide (x66.1=14) then
((g10 s13 s14 x66).bind fun x69 =>
some (.inl (x69.2.1,x69.2.2)))
else
(some (.inl (s13,s14)))) : Option (((ZP)×(ZQ)) ⊕ Unit)).bind fun o64=>match o64 with
| .inl (s62,s63)=>(some (.inl (s62,s63)))
| .inr _=>none)
def g3 (p0:List (ZX)) (p1:Int) (p2:ZN) (p3:Int) : Option (Bool) :=
(g6 p0).bind fun x1 =>
bif (!(!(!x1))||Option.isSome (g6 [(0,0,0,0,p2,([] : Str))])) then
bif ((((!x1)||(!((g6 [(0,0,0,0,p2,([] : Str))]).getD default)))||(decide (p3 < 1)))||(decide ((List.length p2 : Int)≤p3)))||(decide (20 < (List.length p2 : Int))) then
((g7).bind fun x5 =>
some x5)
else
((f14).bind fun x7 =>
(g9).bind fun x9 =>
(rng (g3_b0 p0) (Int.toNat (List.length p0 : Int)) 0 (((mset [] 0 []),1,0),([(0,([] : ZE))],1))).bind fun o18=>match o18 with
| .inl (s13,s14)=>((f16 s13 p1 p2).bind fun x20 =>
bif slOk 0 p3 (List.length p2) then
(f16 s13 p1 ((p2.take (Int.toNat p3)).drop (Int.toNat 0))).bind fun x23 =>
bif (!decide (x23.2.2=0))||(!x23.1.2.2.2) then
(bif (!(!decide (x20.2.2=0))||Option.isSome (g7)) then
some ((!decide (x20.2.2=0))&&((g7).getD default))
else none)
else
(bif slOk p3 (List.length p2 : Int) (List.length p2) then
(f16 s13 x23.1.2.2.1 ((p2.take (Int.toNat (List.length p2 : Int))).drop (Int.toNat p3))).bind fun x28 =>
bif (!(((decide (bstr x20.1.1.1=bstr x28.1.1.1))&&((decide (bstr x20.1.1.2=bstr x28.1.1.2))&&((decide (bstr x20.1.2.1=bstr x28.1.2.1))&&((decide (x20.1.2.2.1=x28.1.2.2.1))&&(decide (x20.1.2.2.2=x28.1.2.2.2))))))&&(decide (x20.2.2=x28.2.2)))||Option.isSome (g7)) then
some ((((decide (bstr x20.1.1.1=bstr x28.1.1.1))&&((decide (bstr x20.1.1.2=bstr x28.1.1.2))&&((decide (bstr x20.1.2.1=bstr x28.1.2.1))&&((decide (x20.1.2.2.1=x28.1.2.2.1))&&(decide (x20.1.2.2.2=x28.1.2.2.2))))))&&(decide (x20.2.2=x28.2.2)))&&((g7).getD default))
else none
else none)
else none)
| .inr _=>none)
else none
def g4_b0 (p0:List (ZX)) (i11:Int) (s:(ZP)×(ZQ)) : Option (((ZP)×(ZQ)) ⊕ Unit) :=
match s with
| (s13,s14)=>((((ix p0 i11).bind fun x74 =>
bif !decide (x74.1=14) then
((g10 s13 s14 x74).bind fun x77 =>
some (.inl (x77.2.1,x77.2.2)))
else
(some (.inl (s13,s14)))) : Option (((ZP)×(ZQ)) ⊕ Unit)).bind fun o72=>match o72 with
| .inl (s70,s71)=>(some (.inl (s70,s71)))
| .inr _=>none)
def g4 (p0:List (ZX)) (p1:Int) (p2:Str×Str) (p3:Str×Str) (p4:Str) : Option (Bool) :=
(g6 p0).bind fun x1 =>
bif (!(!(!x1))||Option.isSome (g6 [(0,0,0,0,[p2,p3],p4)])) then
bif (!x1)||(!((g6 [(0,0,0,0,[p2,p3],p4)]).getD default)) then
((g7).bind fun x5 =>
some x5)
else
((f14).bind fun x7 =>
(g9).bind fun x9 =>
(rng (g4_b0 p0) (Int.toNat (List.length p0 : Int)) 0 (((mset [] 0 []),1,0),([(0,([] : ZE))],1))).bind fun o18=>match o18 with
| .inl (s13,s14)=>((f16 s13 p1 [p3]).bind fun x38 =>
(g12 s13 p1 [p2] p4).bind fun x40 =>
bif !decide (x40.2.1=0) then
((g7).bind fun x43 =>
some x43)
else
((f16 x40.2.2 p1 [p2]).bind fun x45 =>
bif (((!decide (x45.2.2=0))||x45.1.2.2.2)||(!decide (x45.1.2.1=p4)))||(!((decide (bstr x45.1.1.1=bstr p2.1))&&(decide (bstr x45.1.1.2=bstr p2.2)))) then
(some false)
else
(((bif !((decide (bstr p2.1=bstr p3.1))&&(decide (bstr p2.2=bstr p3.2))) then
((f16 x40.2.2 p1 [p3]).bind fun x51 =>
bif ((!((decide (bstr x51.1.1.1=bstr x38.1.1.1))&&((decide (bstr x51.1.1.2=bstr x38.1.1.2))&&((decide (bstr x51.1.2.1=bstr x38.1.2.1))&&((decide (x51.1.2.2.1=x38.1.2.2.1))&&(decide (x51.1.2.2.2=x38.1.2.2.2)))))))||(!((decide (x51.2.1.1=x38.2.1.1))&&(decide (x51.2.1.2=x38.2.1.2)))))||(!decide (x51.2.2=x38.2.2)) then
(some (.inr ()))
else
(some (.inl ())))
else
(some (.inl ()))) : Option (Unit ⊕ Unit)).bind fun o48=>match o48 with
| .inl ()=>(bif strOk (List.length p4+List.length ([120] : Str)) then
(g13 x40.2.2 p1 [p2] (p4++([120] : Str))).bind fun x55 =>
bif !decide (x55.2.1=0) then
(bif (!(decide (65536≤(List.length p4 : Int)))||Option.isSome (g7)) then
some ((decide (65536≤(List.length p4 : Int)))&&((g7).getD default))
else none)
else
((f16 x55.2.2 p1 [p2]).bind fun x59 =>
bif (!(!(!decide (x59.2.2=0)))||(strOk (List.length p4+List.length ([120] : Str)))) then
bif (!decide (x59.2.2=0))||(!decide (x59.1.2.1=(p4++([120] : Str)))) then
(some false)
else
((g14 x55.2.2 p1 [p2]).bind fun x63 =>
bif !decide (x63.2.1=0) then
(some false)
else
((f16 x63.2.2 p1 [p2]).bind fun x66 =>
bif (!((decide (x66.2.2=8))&&((decide (x66.2.1.1=0))&&(decide (x66.2.1.2=1))))||Option.isSome (g7)) then
some (((decide (x66.2.2=8))&&((decide (x66.2.1.1=0))&&(decide (x66.2.1.2=1))))&&((g7).getD default))
else none))
else none)
else none)
| .inr ()=>(some false))))
| .inr _=>none)
else none
end Go.Ab
namespace Go.Ab
open Go
theorem mg_mem {α β:Type} [DecidableEq α] : ∀ {x:List (α×β)}{k:α}{v:β},mget x k=some v→(k,v)∈x:=by
 intro x
 induction x with
 | nil=>intro k v h; simp [mget] at h
 | cons p r ih =>
  intro k v h
  simp only [mget] at h
  by_cases e : k=p.1
  ·rw [if_pos e] at h; cases h; subst e; simp
  ·rw [if_neg e] at h; exact List.mem_cons_of_mem _ (ih h)
theorem mem_mg {α β:Type} [DecidableEq α] : ∀ {x:List (α×β)}{k:α}{v:β},(x.map (·.1)).Nodup→(k,v)∈x→mget x k=some v:=by
 intro x
 induction x with
 | nil=>intro k v _ h; simp at h
 | cons p r ih =>
  intro k v hn h
  simp only [List.map_cons,List.nodup_cons] at hn
  simp only [mget]
  rcases List.mem_cons.1 h with rfl | h
  ·simp
  ·rw [if_neg,ih hn.2 h]
   rintro rfl
   exact hn.1 (List.mem_map.2 ⟨_,h,rfl⟩)
theorem zD4 {α β:Type} [DecidableEq α] : ∀ (x:List (α×β)) (k:α) (v:β) (q:α),mget (mset x k v) q=if q=k then some v else mget x q:=by
 intro x k v q
 induction x with
 | nil=>simp [mset,mget]
 | cons p r ih =>
  simp only [mset]
  by_cases e : k=p.1
  ·rw [if_pos e]
   simp only [mget]
   by_cases e2 : q=k
   ·simp [e2]
   ·rw [if_neg e2,if_neg e2,if_neg (by rw [← e]; exact e2)]
  ·rw [if_neg e]
   simp only [mget,ih]
   by_cases e2 : q=p.1
   ·rw [if_pos e2,if_pos e2,if_neg (by rw [e2]; exact fun h=>e h.symm)]
   ·rw [if_neg e2,if_neg e2]
theorem perm_mg {α β:Type} [DecidableEq α] {a b:List (α×β)}(ha:(a.map (·.1)).Nodup) (hb:(b.map (·.1)).Nodup) (h:∀ k,mget a k=mget b k) : a.Perm b:=by
 have na : a.Nodup:=List.Pairwise.of_map _ (fun x y hxy e=>hxy (by rw [e])) ha
 have nb : b.Nodup:=List.Pairwise.of_map _ (fun x y hxy e=>hxy (by rw [e])) hb
 refine (List.perm_ext_iff_of_nodup na nb).2 fun e=>⟨fun he=>?_,fun he=>?_⟩
 ·have:=mem_mg ha (k:=e.1) (v:=e.2) he
  rw [h] at this; exact mg_mem this
 ·have:=mem_mg hb (k:=e.1) (v:=e.2) he
  rw [← h] at this; exact mg_mem this
abbrev Ctx:=List (Int×ZM)
def Opn (c:Ctx) (s:List (Int×Bool)) (y:Int) : Prop:=(mget c y).isSome=true∧(mget s y).getD false=false
def Edg (c:Ctx) (y t:Int) : Prop:=∃ p∈(mget c y).getD [],asI 86 .i64 p.2=some (t,true)
inductive Rch (c:Ctx) (s:List (Int×Bool)) : Int→Int→Prop
 | here {y:Int} : Opn c s y→Rch c s y y
 | step {x t y:Int} : Opn c s x→Edg c x t→Rch c s t y→Rch c s x y
theorem Rch.opn {c s x y}(h:Rch c s x y) : Opn c s x:=by cases h <;> assumption
theorem Rch.trans {c s x y z}(h:Rch c s x y) (k:Rch c s y z) : Rch c s x z:=by
 induction h with
 | here=>exact k
 | step h1 h2 _ ih=>exact .step h1 h2 (ih k)
theorem Rch.mono {c s s' x y}(hs:∀ y,Opn c s' y→Opn c s y) (h:Rch c s' x y) : Rch c s x y:=by
 induction h with
 | here h=>exact .here (hs _ h)
 | step h1 h2 _ ih=>exact .step (hs _ h1) h2 ih
def Vis (c:Ctx) (s:List (Int×Bool)) (T:Int→Prop) (r:List (Int×Bool)) : Prop:=zC r∧∀ y,((∃ t,T t∧Rch c s t y)→mget r y=some true)∧((¬ ∃ t,T t∧Rch c s t y)→mget r y=mget s y)
theorem Vis.opn {c s T r}(h:Vis c s T r){y}(hy:Opn c r y) : Opn c s y:=by
 refine ⟨hy.1,?_⟩
 by_cases e : ∃ t,T t∧Rch c s t y
 ·have:=(h.2 y).1 e; have:=hy.2; simp_all
 ·rw [← (h.2 y).2 e]; exact hy.2
theorem Vis.comp {c s s' T1 T2 r}(h1:Vis c s T1 s') (h2:Vis c s' T2 r) : Vis c s (fun t=>T1 t∨T2 t) r:=by
 have key : ∀ {x y},Rch c s x y→(∃ t,T1 t∧Rch c s t y)∨Rch c s' x y:=by
  intro x y h
  induction h with
  | @here y h =>
   by_cases e : ∃ t,T1 t∧Rch c s t y
   ·exact .inl e
   ·exact .inr (.here ⟨h.1,by rw [(h1.2 y).2 e]; exact h.2⟩)
  | @step x u y g1 g2 g3 ih =>
   by_cases e : ∃ t,T1 t∧Rch c s t x
   ·obtain ⟨t,a1,a2⟩:=e
    exact .inl ⟨t,a1,a2.trans (.step g1 g2 g3)⟩
   ·rcases ih with ih | ih
    ·exact .inl ih
    ·exact .inr (.step ⟨g1.1,by rw [(h1.2 x).2 e]; exact g1.2⟩ g2 ih)
 refine ⟨h2.1,fun y=>⟨?_,fun h=>?_⟩⟩
 ·rintro ⟨t,ht,hr⟩
  by_cases e : ∃ t,T2 t∧Rch c s' t y
  ·exact (h2.2 y).1 e
  ·rw [(h2.2 y).2 e]
   rcases ht with ht | ht
   ·exact (h1.2 y).1 ⟨t,ht,hr⟩
   ·rcases key hr with g | g
    ·exact (h1.2 y).1 g
    ·exact absurd ⟨t,ht,g⟩ e
 ·rw [(h2.2 y).2,(h1.2 y).2]
  ·rintro ⟨t,a,b⟩; exact h ⟨t,.inl a,b⟩
  ·rintro ⟨t,a,b⟩; exact h ⟨t,.inr a,b.mono fun _=>h1.opn⟩
theorem Vis.visit {c s id r}(ho:Opn c s id) (h:Vis c (mset s id true) (Edg c id) r) : Vis c s (fun t=>t=id) r:=by
 have hm : ∀ y,mget (mset s id true) y=if y=id then some true else mget s y:=fun y=>zD4 s id true y
 have hop : ∀ y,Opn c (mset s id true) y↔Opn c s y∧y≠id:=by
  intro y
  unfold Opn
  rw [hm]
  by_cases e : y=id
  ·simp [e]
  ·simp [e]
 have key : ∀ {x y},Rch c s x y→Rch c (mset s id true) x y∨y=id∨∃ t,Edg c id t∧Rch c (mset s id true) t y:=by
  intro x y g
  induction g with
  | @here y g =>
   by_cases e : y=id
   ·exact .inr (.inl e)
   ·exact .inl (.here ((hop _).2 ⟨g,e⟩))
  | @step x u y g1 g2 g3 ih =>
   rcases ih with ih | ih
   ·by_cases e : x=id
    ·subst e; exact .inr (.inr ⟨u,g2,ih⟩)
    ·exact .inl (.step ((hop _).2 ⟨g1,e⟩) g2 ih)
   ·exact .inr ih
 refine ⟨h.1,fun y=>⟨?_,fun g=>?_⟩⟩
 ·rintro ⟨t,rfl,hr⟩
  by_cases e : ∃ u,Edg c t u∧Rch c (mset s t true) u y
  ·exact (h.2 y).1 e
  ·rw [(h.2 y).2 e,hm]
   rcases key hr with g | g | g
   ·exact absurd rfl ((hop _).1 g.opn).2
   ·rw [if_pos g]
   ·exact absurd g e
 ·rw [(h.2 y).2,hm,if_neg]
  ·rintro rfl; exact g ⟨_,rfl,.here ho⟩
  ·rintro ⟨u,a,b⟩; exact g ⟨id,rfl,.step ho a (b.mono fun y hy=>((hop y).1 hy).1)⟩
theorem filt_le {α:Type}{f g:α→Bool}(h:∀ q,g q=true→f q=true) : ∀ c : List α,(c.filter g).length≤(c.filter f).length:=by
 intro c
 induction c with
 | nil=>simp
 | cons q c ih =>
  simp only [List.filter_cons]
  cases hg : g q
  ·cases hf : f q <;> simp <;> omega
  ·simp [h q hg]; omega
theorem filt_lt {α:Type}{f g:α→Bool}(h:∀ q,g q=true→f q=true){z:α}(hf:f z=true) (hg:g z=false) : ∀ c : List α,z∈c→(c.filter g).length < (c.filter f).length:=by
 intro c
 induction c with
 | nil=>intro hz; simp at hz
 | cons q c ih =>
  intro hz
  simp only [List.filter_cons]
  rcases List.mem_cons.1 hz with rfl | hz
  ·have:=filt_le h c
   simp [hf,hg]; omega
  ·have:=ih hz
   cases hg : g q
   ·cases hf : f q <;> simp <;> omega
   ·simp [h q hg]; omega
theorem unseen_le {c:Ctx}{s r}(h:∀ y,Opn c r y→Opn c s y) : zDl c r≤zDl c s:=by
 unfold zDl
 have : ∀ q∈c,(!((mget r q.1).getD false))=true→(!((mget s q.1).getD false))=true:=by
  intro q hq hr
  have hk : (mget c q.1).isSome=true:=by
   cases hm : mget c q.1 with
   | some=>rfl
   | none =>
    exfalso
    clear h hr
    induction c with
    | nil=>simp at hq
    | cons p c ih =>
     simp only [mget] at hm
     split at hm
     ·cases hm
     ·rename_i ne
      rcases List.mem_cons.1 hq with rfl | hq
      ·exact ne rfl
      ·exact ih hq hm
  simpa using (h q.1 ⟨hk,by simpa using hr⟩).2
 clear h
 induction c with
 | nil=>simp
 | cons q c ih =>
  have ih:=ih fun q' h'=>this q' (List.mem_cons_of_mem _ h')
  have h0:=this q List.mem_cons_self
  simp only [List.filter_cons]
  cases hr : (!((mget r q.1).getD false))
  ·cases hs : (!((mget s q.1).getD false)) <;> simp <;> omega
  ·simp [h0 hr]; omega
theorem unseen_lt {c:Ctx}{s}{id:Int}(h:Opn c s id) : zDl c (mset s id true) < zDl c s:=by
 obtain ⟨b,hb⟩:=Option.isSome_iff_exists.1 h.1
 unfold zDl
 refine filt_lt (z:=(id,b)) (fun q hq=>?_) (by simpa using h.2) (by simp [zD4]) c (mg_mem hb)
 rw [zD4] at hq
 by_cases e : q.1=id
 ·simp [e] at hq
 ·simpa [e] using hq
theorem fold_vis {p1:Ctx×Int×Int}{n:Nat}(hrec:∀ s id,zDl p1.1 s < n→zC s→∃ r,g55 n id p1 s=some r∧Vis p1.1 s (fun t=>t=id) r) :
  ∀ (l:ZM) (s:List (Int×Bool)),(∀ p∈l,(asI 86 .i64 p.2).isSome=true)→zDl p1.1 s < n→zC s→∃ r,zBu (g55_m0 p1 (g55 n)) s l=some (.inl r)∧Vis p1.1 s (fun t=>∃ p∈l,asI 86 .i64 p.2=some (t,true)) r:=by
 intro l
 induction l with
 | nil=>intro s _ _ hn; exact ⟨s,rfl,hn,fun y=>⟨fun ⟨t,⟨p,hp,_⟩,_⟩=>by simp at hp,fun _=>rfl⟩⟩
 | cons p l ih =>
  intro s hl hu hn
  obtain ⟨z,hz⟩:=Option.isSome_iff_exists.1 (hl p List.mem_cons_self)
  have hl' : ∀ q∈l,(asI 86 .i64 q.2).isSome=true:=fun q hq=>hl q (List.mem_cons_of_mem _ hq)
  obtain ⟨t,b⟩:=z
  simp only [zBu,g55_m0,hz,Option.bind_some]
  cases b with
  | false =>
   obtain ⟨r,h1,h2⟩:=ih s hl' hu hn
   refine ⟨r,by simpa using h1,h2.1,fun y=>?_⟩
   have e : (∃ t,(∃ q∈p::l,asI 86 .i64 q.2=some (t,true))∧Rch p1.1 s t y)↔∃ t,(∃ q∈l,asI 86 .i64 q.2=some (t,true))∧Rch p1.1 s t y:=by
    constructor
    ·rintro ⟨u,⟨q,hq,hu⟩,hr⟩
     rcases List.mem_cons.1 hq with rfl | hq
     ·rw [hz] at hu; simp at hu
     ·exact ⟨u,⟨q,hq,hu⟩,hr⟩
    ·rintro ⟨u,⟨q,hq,hu⟩,hr⟩; exact ⟨u,⟨q,List.mem_cons_of_mem _ hq,hu⟩,hr⟩
   rw [e]; exact h2.2 y
  | true =>
   obtain ⟨s',g1,g2⟩:=hrec s t hu hn
   obtain ⟨r,h1,h2⟩:=ih s' hl' (Nat.lt_of_le_of_lt (unseen_le fun y hy=>g2.opn hy) hu) g2.1
   refine ⟨r,by simpa [g1] using h1,?_⟩
   have hc:=g2.comp h2
   refine ⟨hc.1,fun y=>?_⟩
   have e : (∃ u,(∃ q∈p::l,asI 86 .i64 q.2=some (u,true))∧Rch p1.1 s u y)↔∃ u,(u=t∨∃ q∈l,asI 86 .i64 q.2=some (u,true))∧Rch p1.1 s u y:=by
    constructor
    ·rintro ⟨u,⟨q,hq,hu⟩,hr⟩
     rcases List.mem_cons.1 hq with rfl | hq
     ·rw [hz] at hu; simp at hu; exact ⟨u,.inl hu.symm,hr⟩
     ·exact ⟨u,.inr ⟨q,hq,hu⟩,hr⟩
    ·rintro ⟨u,rfl | ⟨q,hq,hu⟩,hr⟩
     ·exact ⟨u,⟨p,List.mem_cons_self,hz⟩,hr⟩
     ·exact ⟨u,⟨q,List.mem_cons_of_mem _ hq,hu⟩,hr⟩
   rw [e]; exact hc.2 y
theorem g55_vis {p1:Ctx×Int×Int}(hg:visG p1.1=true) : ∀ (n:Nat) (s:List (Int×Bool)) (id:Int),zDl p1.1 s < n→zC s→∃ r,g55 n id p1 s=some r∧Vis p1.1 s (fun t=>t=id) r:=by
 intro n
 induction n with
 | zero=>intro s id h; omega
 | succ n ih =>
  intro s id hu hn
  simp only [g55,g55_r]
  by_cases ho : Opn p1.1 s id
  ·have e : ((!((mget p1.1 id).isSome))||((mget s id).getD false))=false:=by rw [ho.1,ho.2]; rfl
   have hu':=unseen_lt ho
   have hn' : zC (mset s id true):=zBZ _ _ hn
   obtain ⟨b,hb⟩:=Option.isSome_iff_exists.1 ho.1
   have hall : ∀ p∈b,(asI 86 .i64 p.2).isSome=true:=by
    have:=List.all_eq_true.1 hg _ (mg_mem hb)
    exact fun p hp=>List.all_eq_true.1 this p hp
   have hv : visOk n p1.1 (mset s id true)=true:=by
    unfold visOk; rw [hg]; simp; omega
   obtain ⟨r,h1,h2⟩:=fold_vis ih b (mset s id true) hall (by omega) hn'
   rw [e,hv,hb]
   simp only [cond_false,cond_true,Option.getD_some,h1,Option.bind_some]
   refine ⟨r,rfl,Vis.visit ho ?_⟩
   have e2 : Edg p1.1 id=fun t=>∃ p∈b,asI 86 .i64 p.2=some (t,true):=by funext t; unfold Edg; rw [hb]; rfl
   rw [e2]; exact h2
  ·have e : ((!((mget p1.1 id).isSome))||((mget s id).getD false))=true:=by
    unfold Opn at ho
    cases h1 : (mget p1.1 id).isSome <;> cases h2 : (mget s id).getD false <;> simp_all
   rw [e]
   refine ⟨s,rfl,hn,fun y=>⟨?_,fun _=>rfl⟩⟩
   rintro ⟨t,rfl,hr⟩; exact absurd hr.opn ho
theorem fold_all {p1:Ctx×Int×Int}{rec} : ∀ {x:ZM}{s:List (Int×Bool)}{o},zBu (g55_m0 p1 rec) s x=some o→∀ p∈x,(asI 86 .i64 p.2).isSome=true:=by
 intro x
 induction x with
 | nil=>intro s o _ p hp; simp at hp
 | cons q x ih =>
  intro s o h p hp
  simp only [zBu,g55_m0] at h
  cases hz : asI 86 .i64 q.2 with
  | none=>rw [hz] at h; simp at h
  | some z =>
   rw [hz] at h
   simp only [Option.bind_some] at h
   rcases List.mem_cons.1 hp with rfl | hp
   ·rw [hz]; rfl
   ·cases hb : z.2 with
    | false=>rw [hb] at h; simp only [cond_false,Option.bind_some] at h; exact ih h p hp
    | true =>
     rw [hb] at h
     simp only [cond_true] at h
     cases hr : rec z.1 p1 s with
     | none=>rw [hr] at h; simp at h
     | some r=>rw [hr] at h; simp only [Option.bind_some] at h; exact ih h p hp
theorem g55_m0_o {n:Nat}{p1:Ctx×Int×Int}{rec s x o}(hrc:rec=g55 n) (hv:visOk n p1.1 s=true) (hn:zC s) (h:zBu (g55_m0 p1 rec) s x=some o) : ∀ l,l.Perm x→∃ o',zBu (g55_m0 p1 rec) s l=some o'∧g55_m0_q o' o:=by
 intro l hl
 subst hrc
 unfold visOk at hv
 simp only [Bool.and_eq_true] at hv
 have hu : zDl p1.1 s < n:=by simpa using hv.2
 have hx:=fold_all h
 obtain ⟨r1,h1,h2⟩:=fold_vis (g55_vis hv.1 n) x s hx hu hn
 obtain ⟨r2,h3,h4⟩:=fold_vis (g55_vis hv.1 n) l s (fun p hp=>hx p (hl.mem_iff.1 hp)) hu hn
 rw [h] at h1
 cases h1
 refine ⟨_,h3,?_⟩
 show r2.Perm r1
 refine perm_mg h4.1 h2.1 fun k=>?_
 have e : (∃ t,(∃ q∈l,asI 86 .i64 q.2=some (t,true))∧Rch p1.1 s t k)↔∃ t,(∃ q∈x,asI 86 .i64 q.2=some (t,true))∧Rch p1.1 s t k:=by
  constructor
  ·rintro ⟨t,⟨q,hq,hu⟩,hr⟩; exact ⟨t,⟨q,hl.mem_iff.1 hq,hu⟩,hr⟩
  ·rintro ⟨t,⟨q,hq,hu⟩,hr⟩; exact ⟨t,⟨q,hl.mem_iff.2 hq,hu⟩,hr⟩
 by_cases g : ∃ t,(∃ q∈x,asI 86 .i64 q.2=some (t,true))∧Rch p1.1 s t k
 ·rw [(h2.2 k).1 g,(h4.2 k).1 (e.2 g)]
 ·rw [(h2.2 k).2 g,(h4.2 k).2 (fun q=>g (e.1 q))]
end Go.Ab
namespace Go.Ab
open Go.RowKit Go.Shelf Go.Proofs Go.Eng
theorem ent112 : Enters Tryz.prog 112:=enters_of Tryz.func112 (by kernel_rfl) rfl
theorem bt174 : zC4 Tryz.prog 174 (.agg #[.string ByteArray.empty,.string ByteArray.empty]) (fun i=>some (i * 1,1)):=buildT_array (n:=2) (zDB 174 rfl) (by kernel_rfl) (szX 9 rfl)
theorem ent113 : Enters Tryz.prog 113:=enters_of Tryz.func113 (by kernel_rfl) rfl
theorem bt34 : zC4 Tryz.prog 34 (.agg #[.string ByteArray.empty,.string ByteArray.empty]) (fun i=>[(0,1),(1,1)][i]?):=zBn (zDB 34 rfl) (fs:=Tryz.prog.fieldsOf 34) (by kernel_rfl) (fun w=>by kernel_rfl)
theorem eq34 {a0 b0:ByteArray}{a1 b1:ByteArray} : EqT Tryz.prog 34 [.string a0,.string a1] [.string b0,.string b1]:=⟨by kernel_rfl,fun w=>run_eqFlat (fs:=(Tryz.prog.fieldsOf 34).toList) (by kernel_rfl) (by kernel_rfl) (by kernel_rfl) (by kernel_rfl)⟩
theorem ent84 : Enters Tryz.prog 84:=enters_of Tryz.func84 (by kernel_rfl) rfl
theorem ent83 : Enters Tryz.prog 83:=enters_of Tryz.func83 (by kernel_rfl) rfl
theorem ent82 : Enters Tryz.prog 82:=enters_of Tryz.func82 (by kernel_rfl) rfl
theorem ent92 : Enters Tryz.prog 92:=enters_of Tryz.func92 (by kernel_rfl) rfl
theorem ent93 : Enters Tryz.prog 93:=enters_of Tryz.func93 (by kernel_rfl) rfl
theorem ent91 : Enters Tryz.prog 91:=enters_of Tryz.func91 (by kernel_rfl) rfl
theorem ent94 : Enters Tryz.prog 94:=enters_of Tryz.func94 (by kernel_rfl) rfl
theorem ent72 : Enters Tryz.prog 72:=enters_of Tryz.func72 (by kernel_rfl) rfl
theorem bs49 : BuildS Tryz.prog 49 9 .str:=zCh (z:=.string ByteArray.empty) (by kernel_rfl) (by kernel_rfl) rfl
theorem app49 : AppT Tryz.prog 49 9 (Ty.cells .str) 16:=appT_of (z:=.string ByteArray.empty) (by kernel_rfl) (by kernel_rfl) rfl rfl
theorem ent73 : Enters Tryz.prog 73:=enters_of Tryz.func73 (by kernel_rfl) rfl
theorem f69_runs {r:Int}(hr:f69=some r) : zBb Tryz.prog 188 [.any] [.i r]:=by
 refine zAW Tryz.func188 Tryz.ntmps188 rfl (rs:=[.tmp 2]) rfl rfl fun w0 X hX=>?_
 refine sq<|rg<|V va<|nl<|an<|sq<|rg<|V va<|?_
 obtain rfl:=Option.some.inj hr
 exact nl<|an<|cr<|zAk (l':=[(2,.i 2)]) (zAA hX [] 4 rfl rfl wS trivial) rfl ⟨rfl,trivial⟩
theorem f68_runs {r:Int}(hr:f68=some r) : zBb Tryz.prog 187 [.any] [.i r]:=by
 refine zAW Tryz.func187 Tryz.ntmps187 rfl (rs:=[.tmp 2]) rfl rfl fun w0 X hX=>?_
 refine sq<|rg<|V va<|nl<|an<|sq<|rg<|V va<|?_
 obtain rfl:=Option.some.inj hr
 exact nl<|an<|cr<|zAk (l':=[(2,.i 3)]) (zAA hX [] 4 rfl rfl wS trivial) rfl ⟨rfl,trivial⟩
theorem g6_runs {p0:List (ZX)}{r:Bool}(hr:g6 p0=some r) : zBb Tryz.prog 6 [.sl Y2 p0] [.bool r]:=by
 refine zAW Tryz.func6 Tryz.ntmps6 rfl (rs:=[.tmp 2]) rfl rfl fun w0 X hX=>?_
 obtain ⟨o3,e4,hr⟩:=zA hr
 refine sq<|rg<|V va<|nl<|an<|sq<|sq<|rg<|V vm<|V vnl<|V vm<|nl<|an<|bl<|?_
 refine zAb (t:=0) rfl (fun hl=>?_)
 refine zAI (List.length p0 : Int) (g6_b0 p0) (fun p=>match p with | (i1,())=>(⟨[(0,.sl Y2 p0),(2,.bool false),(7,.sl Y2 p0),(8,.i (List.length p0 : Int)),(9,.i i1)],[],0⟩ : AS)) (fun o e st=>match o with | .inl ()=>e=.exit 0∧Wk X st ⟨[(0,.sl Y2 p0),(2,.bool false)],[],0⟩ | .inr ()=>e=.ret∧Wk X st ⟨[(2,.bool false)],[],0⟩) (zAf hl) e4 (by exact zAA hX [] 4 rfl rfl wS trivial) ?_ ?_
 ·intro e st hx
  rcases o3 with _ | _
  ·obtain ⟨rfl,hw⟩:=hx
   refine bh<|an<|(zAY hw)<|sq<|rg<|V vm<|V vnl<|V vle<|V va<|?_
   obtain rfl:=Option.some.inj hr
   exact nl<|an<|cr<|zAk (l':=[(2,.bool (decide ((List.length p0 : Int)≤60)))]) (zAA hX [] 4 rfl rfl wS trivial) rfl ⟨rfl,trivial⟩
  ·obtain ⟨rfl,hw⟩:=hx
   obtain rfl:=Option.some.inj hr
   exact zAE (zAC (zAk (l':=[(2,.bool false)]) (Wk.trans hw (zAA hX [] 4 rfl rfl wS trivial)) rfl ⟨rfl,trivial⟩))
 ·rintro i1 _ o ho
  refine sq<|rg<|V vls<|nl<|an<|sq<|?_
  refine zAO (b:=decide (i1 < (List.length p0 : Int))) rfl (fun hc5=>?_) (fun hc5=>?_)
  ·obtain ⟨q,hr,rfl⟩:=zA7 hc5 ho
   obtain ⟨x6,e7,hr⟩:=zA hr
   refine sk<|an<|sq<|bl<|sq<|rg<|V (zAQ (t:=Y2) (e:=x6) (undX 22 rfl) (szX 26 rfl) rfl rfl e7)<|V vlR<|O oa<|O os<|nl<|an<|sq<|sq<|?_
   refine zAa [0,2,7,8,9,4] [(true,.ptr 0 4),(true,.sl Y1 x6.2.2.2.2.1),(true,.i (List.length x6.2.2.2.2.1 : Int)),(true,.bool (decide (25 < (List.length x6.2.2.2.2.1 : Int)))),(true,.bool (decide (25 < (List.length x6.2.2.2.2.1 : Int)))),(!(decide (25 < (List.length x6.2.2.2.2.1 : Int))),.ptr 0 5),(!(decide (25 < (List.length x6.2.2.2.2.1 : Int))),.str x6.2.2.2.2.2),(!(decide (25 < (List.length x6.2.2.2.2.1 : Int))),.i (List.length x6.2.2.2.2.2 : Int)),(!(decide (25 < (List.length x6.2.2.2.2.1 : Int))),.bool (decide (60 < (List.length x6.2.2.2.2.2 : Int)))),(true,.bool ((decide (25 < (List.length x6.2.2.2.2.1 : Int)))||(decide (60 < (List.length x6.2.2.2.2.2 : Int)))))] [[],[0],[1],[2],[3],[4],[5,4],[6,4],[7,4],[8,4]] [9] rfl rfl rfl rfl rfl ⟨?_,?_,?_,?_,?_,?_,?_,?_,?_,?_,trivial⟩ (zAD ⟨rfl,trivial⟩) ?_
   ·exact oB wfp
   ·exact oB wlp
   ·exact zAr rfl (fun hg=>zAD ⟨rfl,trivial⟩) (fun hg=>zA0 (t:=Y1) rfl rfl (undX 23 rfl) rfl)
   ·exact oB wgt
   ·exact oB wm
   ·exact oB wfp
   ·exact oB wlp
   ·exact oB wnt
   ·exact oB wgt
   ·exact zBr
   refine an<|?_
   refine cnd (fun hc8 hr=>?_) (fun hc8 hr=>?_)
   ·refine sq<|rg<|V va<|?_
    obtain rfl:=Option.some.inj hr
    exact nl<|an<|cr<|zAC (zAE (zAC (⟨rfl,(zAA hX [] 4 rfl rfl wS trivial)⟩)))
   ·obtain ⟨o11,e12,hr⟩:=zA hr
    refine sk<|an<|sq<|rg<|V vfp<|V vlp<|V vnl<|V vm<|nl<|an<|bl<|?_
    refine zAb (t:=24) rfl (fun hl=>?_)
    refine zAI (List.length x6.2.2.2.2.1 : Int) (g6_b1 x6) (fun p=>match p with | (i9,())=>(⟨[(0,.sl Y2 p0),(2,.bool false),(7,.sl Y2 p0),(8,.i (List.length p0 : Int)),(9,.i i1),(24,.sl Y1 x6.2.2.2.2.1),(25,.i (List.length x6.2.2.2.2.1 : Int)),(26,.i i9)],[],0⟩ : AS)) (fun o e st=>match o with | .inl ()=>e=.exit 2∧Wk X st ⟨[(0,.sl Y2 p0),(2,.bool false),(7,.sl Y2 p0),(8,.i (List.length p0 : Int)),(9,.i i1)],[],0⟩ | .inr ()=>e=.ret∧Wk X st ⟨[(2,.bool false)],[],0⟩) (zAf hl) e12 (by exact zAA hX [] 4 rfl rfl wS trivial) ?_ ?_
    ·intro e st hx
     rcases o11 with _ | _
     ·obtain ⟨rfl,hw⟩:=hx
      refine bh<|bn<|an<|(zAY hw)<|rg<|V vad<|V vm<|?_
      obtain rfl:=Option.some.inj hr
      exact zAJ ((zAA hX [] 4 rfl rfl wS trivial))
     ·obtain ⟨rfl,hw⟩:=hx
      obtain rfl:=Option.some.inj hr
      exact zAE (zAE (zAC (⟨rfl,(Wk.trans hw (zAA hX [] 4 rfl rfl wS trivial))⟩)))
    ·rintro i9 _ o ho
     refine sq<|rg<|V vls<|nl<|an<|sq<|?_
     refine zAO (b:=decide (i9 < (List.length x6.2.2.2.2.1 : Int))) rfl (fun hc13=>?_) (fun hc13=>?_)
     ·obtain ⟨q,hr,rfl⟩:=zA7 hc13 ho
      obtain ⟨x14,e15,hr⟩:=zA hr
      refine sk<|an<|sq<|bl<|sq<|rg<|V (zAQ (t:=Y1) (e:=x14) (undX 23 rfl) (szX 34 rfl) rfl rfl e15)<|V vlR<|O oa<|O os<|nl<|an<|sq<|?_
      refine zAa [0,2,7,8,9,24,25,26,6] [(true,.ptr 0 0),(true,.str x14.1),(true,.i (List.length x14.1 : Int)),(true,.bool (decide (40 < (List.length x14.1 : Int)))),(true,.bool (decide (40 < (List.length x14.1 : Int)))),(!(decide (40 < (List.length x14.1 : Int))),.ptr 0 1),(!(decide (40 < (List.length x14.1 : Int))),.str x14.2),(!(decide (40 < (List.length x14.1 : Int))),.i (List.length x14.2 : Int)),(!(decide (40 < (List.length x14.1 : Int))),.bool (decide (40 < (List.length x14.2 : Int)))),(true,.bool ((decide (40 < (List.length x14.1 : Int)))||(decide (40 < (List.length x14.2 : Int)))))] [[],[0],[1],[2],[3],[4],[5,4],[6,4],[7,4],[8,4]] [9] rfl rfl rfl rfl rfl ⟨?_,?_,?_,?_,?_,?_,?_,?_,?_,?_,trivial⟩ (zAD ⟨rfl,trivial⟩) ?_
      ·exact oB wfp
      ·exact oB wlp
      ·exact oB wnt
      ·exact oB wgt
      ·exact oB wm
      ·exact oB wfp
      ·exact oB wlp
      ·exact oB wnt
      ·exact oB wgt
      ·exact zBr
      refine an<|?_
      refine cnd (fun hc16 hr=>?_) (fun hc16 hr=>?_)
      ·refine sq<|rg<|V va<|?_
       obtain rfl:=Option.some.inj hr
       exact nl<|an<|cr<|zAE (zAC (⟨rfl,(zAA hX [] 4 rfl rfl wS trivial)⟩))
      ·refine sk<|bn<|an<|rg<|V vad<|V vm<|?_
       obtain rfl:=Option.some.inj hr
       exact zAJ ((zAA hX [] 4 rfl rfl wS trivial))
     ·obtain rfl:=zA8 hc13 ho
      exact zAH (zAF (⟨rfl,(zAA hX [] 4 rfl rfl wS trivial)⟩))
  ·obtain rfl:=zA8 hc5 ho
   exact zAH (zAF (⟨rfl,(zAA hX [] 4 rfl rfl wS trivial)⟩))
theorem f32_runs {p0:ZN}{q1:ZC→Option Bool}{r:Int}{g1:FuncId}{c1s:List AV}(h_q1:∀ (y1:Str×Str) (r:Bool),q1 y1=some r→zBb Tryz.prog g1 ([.agg [.str y1.1,.str y1.2]]++c1s) [.bool r]) (k_q1:FnIn Tryz.prog g1 c1s) (hr:f32 p0 q1=some r) : zBb Tryz.prog 112 [.sl Y1 p0,.clo (.fn g1 [] c1s)] [.i r]:=by
 refine zAW Tryz.func112 Tryz.ntmps112 rfl (rs:=[.tmp 4]) rfl rfl fun w0 X hX=>?_
 obtain ⟨o4,e5,hr⟩:=zA hr
 refine sq<|rg<|V va<|nl<|an<|sq<|sq<|rg<|V vm<|V vnl<|V vm<|nl<|an<|bl<|?_
 refine zAb (t:=0) rfl (fun hl=>?_)
 refine zAI (List.length p0 : Int) (f32_b0 p0 q1) (fun p=>match p with | (i1,())=>(⟨[(0,.sl Y1 p0),(1,.clo (.fn g1 [] c1s)),(4,.i 0),(7,.i (List.length p0 : Int)),(8,.i i1)],[],0⟩ : AS)) (fun o e st=>match o with | .inl ()=>e=.exit 0∧Wk X st ⟨[(4,.i 0)],[],0⟩ | .inr s3=>e=.ret∧Wk X st ⟨[(4,.i s3)],[],0⟩) (zAf hl) e5 (by exact zAA hX [] 4 rfl rfl wS trivial) ?_ ?_
 ·intro e st hx
  rcases o4 with _ | s3
  ·obtain ⟨rfl,hw⟩:=hx
   refine bh<|an<|(zAY hw)<|sq<|rg<|V va<|?_
   obtain rfl:=Option.some.inj hr
   exact nl<|an<|cr<|zAk (l':=[(4,.i (-1))]) (zAA hX [] 4 rfl rfl wS trivial) rfl ⟨rfl,trivial⟩
  ·obtain ⟨rfl,hw⟩:=hx
   obtain rfl:=Option.some.inj hr
   exact zAE (zAC (zAk (l':=[(4,.i s3)]) (Wk.trans hw (zAA hX [] 4 rfl rfl wS trivial)) rfl ⟨rfl,trivial⟩))
 ·rintro i1 _ o ho
  refine sq<|rg<|V vls<|nl<|an<|sq<|?_
  refine zAO (b:=decide (i1 < (List.length p0 : Int))) rfl (fun hc6=>?_) (fun hc6=>?_)
  ·obtain ⟨q,hr,rfl⟩:=zA7 hc6 ho
   obtain ⟨x7,e8,hr⟩:=zA hr
   obtain ⟨x9,e10,hr⟩:=zA hr
   refine sk<|an<|sq<|bl<|sq<|rg<|V vm<|V va<|nl<|an<|sq<|rg<|V vm<|V vm<|V vm<|?_
   refine V (zAQ (t:=Y1) (e:=x7) (undX 23 rfl) (szX 34 rfl) rfl rfl e8)<|V vlR<|?_
   refine V (av_callq rfl (h_q1 x7 x9 e10).x k_q1 rfl rfl rfl)<|nl<|an<|?_
   refine cnd (fun hc11 hr=>?_) (fun hc11 hr=>?_)
   ·refine sq<|rg<|V vm<|V va<|?_
    obtain rfl:=Option.some.inj hr
    exact nl<|an<|cr<|zAE (zAC (⟨rfl,(zAA hX [] 4 rfl rfl wS trivial)⟩))
   ·refine sk<|bn<|an<|rg<|V vad<|V vm<|?_
    obtain rfl:=Option.some.inj hr
    exact zAJ ((zAA hX [] 4 rfl rfl wS trivial))
  ·obtain rfl:=zA8 hc6 ho
   exact zAH (zAF (⟨rfl,(zAA hX [] 4 rfl rfl wS trivial)⟩))
theorem f19_runs {p0:ZN}{q1:ZC→Option Bool}{r:Bool}{g1:FuncId}{c1s:List AV}(h_q1:∀ (y1:Str×Str) (r:Bool),q1 y1=some r→zBb Tryz.prog g1 ([.agg [.str y1.1,.str y1.2]]++c1s) [.bool r]) (k_q1:FnIn Tryz.prog g1 c1s) (hr:f19 p0 q1=some r) : zBb Tryz.prog 82 [.sl Y1 p0,.clo (.fn g1 [] c1s)] [.bool r]:=by
 refine zAW Tryz.func82 Tryz.ntmps82 rfl (rs:=[.tmp 4]) rfl rfl fun w0 X hX=>?_
 obtain ⟨x1,e2,hr⟩:=zA hr
 refine sq<|rg<|V va<|nl<|an<|sq<|rg<|V vm<|V vm<|?_
 refine V (zAV (f32_runs (g1:=g1) (c1s:=c1s) h_q1 k_q1 e2).x ent112 rfl rfl)<|V vge<|V va<|?_
 obtain rfl:=Option.some.inj hr
 exact nl<|an<|cr<|zAk (l':=[(4,.bool (decide (0≤x1)))]) (zAA hX [] 4 rfl rfl wS trivial) rfl ⟨rfl,trivial⟩
theorem zCI {p0:Str×Str}{r:Bool}(hr:f21 p0=some r) : zBb Tryz.prog 84 [.agg [.str p0.1,.str p0.2]] [.bool r]:=by
 refine zAW Tryz.func84 Tryz.ntmps84 rfl (rs:=[.tmp 2]) rfl rfl fun w0 X hX=>?_
 obtain ⟨o3,e4,hr⟩:=zA hr
 refine sq<|rg<|O ob<|V va<|nl<|an<|sq<|sq<|rg<|V vfp<|V vlp<|V vfp<|V vlp<|?_
 refine V (zAs (qs:=[(0,[.str p0.1]),(1,[.str p0.2])]) (cs:=[.str p0.1,.str p0.2]) bt174 rfl rfl rfl)<|V vm<|nl<|an<|bl<|?_
 refine zAI (S:=Unit) (R:=Unit) 2 (f21_b0 p0) (fun p=>match p with | (i1,())=>(⟨[(1,.ptr 0 0),(2,.bool false),(9,.agg [.str p0.1,.str p0.2]),(10,.i i1)],[(0,.var 34 [.str p0.1,.str p0.2])],1⟩ : AS)) (fun o e st=>match o with | .inl ()=>e=.exit 0∧Wk X st ⟨[(1,.ptr 0 0),(2,.bool false)],[(0,.var 34 [.str p0.1,.str p0.2])],1⟩ | .inr ()=>e=.ret∧Wk X st ⟨[(2,.bool false)],[],0⟩) (by decide) e4 (by exact zAA hX [0] 4 rfl rfl wS wO) ?_ ?_
 ·intro e st hx
  rcases o3 with _ | _
  ·obtain ⟨rfl,hw⟩:=hx
   refine bh<|an<|(zAY hw)<|sq<|rg<|V vlP<|?_
   refine V (zAs (qs:=[]) (cs:=[.str ([] : Str),.str ([] : Str)]) bt34 rfl rfl rfl)<|?_
   refine V (av_neqA (r:=(decide (bstr p0.1=bstr ([] : Str)))&&(decide (bstr p0.2=bstr ([] : Str)))) eq34 rfl rfl rfl rfl rfl rfl)<|V va<|?_
   obtain rfl:=Option.some.inj hr
   exact nl<|an<|cr<|zAk (l':=[(2,.bool (!((decide (bstr p0.1=bstr ([] : Str)))&&(decide (bstr p0.2=bstr ([] : Str))))))]) (zAA hX [] 4 rfl rfl wS trivial) rfl ⟨rfl,trivial⟩
  ·obtain ⟨rfl,hw⟩:=hx
   obtain rfl:=Option.some.inj hr
   exact zAE (zAC (zAk (l':=[(2,.bool false)]) (Wk.trans hw (zAA hX [] 4 rfl rfl wS trivial)) rfl ⟨rfl,trivial⟩))
 ·rintro i1 _ o ho
  refine sq<|rg<|V vls<|nl<|an<|sq<|?_
  refine zAO (b:=decide (i1 < 2)) rfl (fun hc5=>?_) (fun hc5=>?_)
  ·obtain ⟨q,hr,rfl⟩:=zA7 hc5 ho
   obtain ⟨x6,e7,hr⟩:=zA hr
   refine sk<|an<|sq<|bl<|sq<|rg<|V (av_index_aggS (l:=([p0.1,p0.2] : List Str)) (undX 174 rfl) (tsX 9 rfl) rfl rfl rfl e7)<|V va<|nl<|an<|sq<|?_
   obtain ⟨h8,hr⟩:=zAN hr
   refine zAa [1,2,9,10,4] [(true,.str x6),(true,.i (List.length x6 : Int)),(true,.bool (decide (32 < (List.length x6 : Int)))),(true,.bool (decide (32 < (List.length x6 : Int)))),(!(decide (32 < (List.length x6 : Int))),.str x6),(!(decide (32 < (List.length x6 : Int))),.bool ((fCF x6).getD default)),(true,.bool ((decide (32 < (List.length x6 : Int)))||((fCF x6).getD default)))] [[],[0],[1],[2],[3],[4,3],[5,3]] [6] rfl rfl rfl rfl rfl ⟨?_,?_,?_,?_,?_,?_,?_,trivial⟩ (zAD ⟨rfl,trivial⟩) ?_
   ·exact oB wm
   ·exact oB wnt
   ·exact oB wgt
   ·exact oB wm
   ·exact oB wm
   ·exact zAr ⟨rfl,rfl,rfl,_,rfl,rfl⟩ (fun hg=>zAD ⟨hg,rfl,trivial⟩) (fun hg=>zAV (fCF_runs (zAz h8 hg)).x ent113 rfl rfl)
   ·exact zBr
   refine an<|?_
   refine cnd (fun hc9 hr=>?_) (fun hc9 hr=>?_)
   ·refine sq<|rg<|V va<|?_
    obtain rfl:=Option.some.inj hr
    exact nl<|an<|cr<|zAE (zAC (⟨rfl,(zAA hX [] 4 rfl rfl wS trivial)⟩))
   ·refine sk<|bn<|an<|rg<|V vad<|V vm<|?_
    obtain rfl:=Option.some.inj hr
    exact zAJ ((zAA hX [0] 4 rfl rfl wS wO))
  ·obtain rfl:=zA8 hc5 ho
   exact zAH (zAF (⟨rfl,(zAA hX [0] 4 rfl rfl wS wO)⟩))
theorem f20_runs {p0:Str×Str}{r:Bool}(hr:f20 p0=some r) : zBb Tryz.prog 83 [.agg [.str p0.1,.str p0.2]] [.bool r]:=by
 refine zAW Tryz.func83 Tryz.ntmps83 rfl (rs:=[.tmp 2]) rfl rfl fun w0 X hX=>?_
 obtain ⟨x1,e2,hr⟩:=zA hr
 refine sq<|rg<|O ob<|V va<|nl<|an<|sq<|rg<|V vlP<|?_
 refine V (zAV (zCI e2).x ent84 rfl rfl)<|V vno<|V va<|?_
 obtain rfl:=Option.some.inj hr
 exact nl<|an<|cr<|zAk (l':=[(2,.bool (!x1))]) (zAA hX [] 4 rfl rfl wS trivial) rfl ⟨rfl,trivial⟩
theorem f9_runs {p0:ZN}{r:Bool}(hr:f9 p0=some r) : zBb Tryz.prog 59 [.sl Y1 p0] [.bool r]:=by
 refine zAW Tryz.func59 Tryz.ntmps59 rfl (rs:=[.tmp 2]) rfl rfl fun w0 X hX=>?_
 refine sq<|rg<|V va<|nl<|an<|sq<|?_
 obtain ⟨h1,hr⟩:=zAN hr
 refine zAa [0] [(true,.sl Y1 p0),(true,.i (List.length p0 : Int)),(true,.bool (decide (1≤(List.length p0 : Int)))),(true,.bool (decide (1≤(List.length p0 : Int)))),(decide (1≤(List.length p0 : Int)),.sl Y1 p0),(decide (1≤(List.length p0 : Int)),.i (List.length p0 : Int)),(decide (1≤(List.length p0 : Int)),.bool (decide ((List.length p0 : Int)≤20))),(true,.bool ((decide (1≤(List.length p0 : Int)))&&(decide ((List.length p0 : Int)≤20)))),(true,.bool ((decide (1≤(List.length p0 : Int)))&&(decide ((List.length p0 : Int)≤20)))),((decide (1≤(List.length p0 : Int)))&&(decide ((List.length p0 : Int)≤20)),.sl Y1 p0),((decide (1≤(List.length p0 : Int)))&&(decide ((List.length p0 : Int)≤20)),.bool ((f19 p0 (fun y1=>f20 y1)).getD default)),((decide (1≤(List.length p0 : Int)))&&(decide ((List.length p0 : Int)≤20)),.bool (!((f19 p0 (fun y1=>f20 y1)).getD default))),(true,.bool (((decide (1≤(List.length p0 : Int)))&&(decide ((List.length p0 : Int)≤20)))&&(!((f19 p0 (fun y1=>f20 y1)).getD default)))),(true,.bool (((decide (1≤(List.length p0 : Int)))&&(decide ((List.length p0 : Int)≤20)))&&(!((f19 p0 (fun y1=>f20 y1)).getD default))))] [[],[0],[1],[2],[3],[4,3],[5,3],[6,3],[7],[8],[9,8],[10,8],[11,8],[12]] [13] rfl rfl rfl rfl rfl ⟨?_,?_,?_,?_,?_,?_,?_,?_,?_,?_,?_,?_,?_,?_,trivial⟩ (zAD ⟨rfl,trivial⟩) ?_
 ·exact oB wm
 ·exact zAr rfl (fun hg=>zAD ⟨rfl,trivial⟩) (fun hg=>zA0 (t:=Y1) rfl rfl (undX 23 rfl) rfl)
 ·exact oB wge
 ·exact oB wm
 ·exact oB wm
 ·exact zAr ⟨rfl,rfl,rfl,_,rfl,rfl⟩ (fun hg=>zAD ⟨hg,rfl,trivial⟩) (fun hg=>zA0 (t:=Y1) rfl rfl (undX 23 rfl) rfl)
 ·exact oB wle
 ·exact zBe
 ·exact oB wm
 ·exact oB wm
 ·exact zAr ⟨rfl,rfl,rfl,_,rfl,rfl⟩ (fun hg=>zAD ⟨hg,rfl,trivial⟩) (fun hg=>av_callN (as':=[.sl Y1 p0,.fn 83 [] []]) (f19_runs (q1:=(fun y1=>f20 y1)) (g1:=83) (c1s:=[]) (fun _ r h=>(have h2:=f20_runs h; h2)) ⟨ent83⟩ (zAz h1 hg)).x ent82 rfl ⟨cv0,(cv3 rfl),trivial⟩ rfl)
 ·exact oB wno
 ·exact zBe
 ·exact oB wa
 obtain rfl:=Option.some.inj hr
 exact zAZ (zAw (zAk (l':=[(2,.bool (((decide (1≤(List.length p0 : Int)))&&(decide ((List.length p0 : Int)≤20)))&&(!((f19 p0 (fun y1=>f20 y1)).getD default))))]) (zAA hX [] 4 rfl rfl wS trivial) rfl ⟨rfl,trivial⟩))
theorem f38_runs {p0:Int}{r:Bool}(hr:f38 p0=some r) : zBb Tryz.prog 92 [.int .u8 p0] [.bool r]:=by
 refine zAW Tryz.func92 Tryz.ntmps92 rfl (rs:=[.tmp 2]) rfl rfl fun w0 X hX=>?_
 refine sq<|rg<|V va<|nl<|an<|sq<|?_
 refine zAa [0] [(true,.int .u8 p0),(true,.bool (decide (p0=46))),(true,.bool (decide (p0=46))),(!(decide (p0=46)),.int .u8 p0),(!(decide (p0=46)),.bool (decide (p0=47))),(true,.bool ((decide (p0=46))||(decide (p0=47)))),(true,.bool ((decide (p0=46))||(decide (p0=47)))),(!((decide (p0=46))||(decide (p0=47))),.int .u8 p0),(!((decide (p0=46))||(decide (p0=47))),.bool (decide (p0=92))),(true,.bool (((decide (p0=46))||(decide (p0=47)))||(decide (p0=92)))),(true,.bool (((decide (p0=46))||(decide (p0=47)))||(decide (p0=92))))] [[],[0],[1],[2],[3,2],[4,2],[5],[6],[7,6],[8,6],[9]] [10] rfl rfl rfl rfl rfl ⟨?_,?_,?_,?_,?_,?_,?_,?_,?_,?_,?_,trivial⟩ (zAD ⟨rfl,trivial⟩) ?_
 ·exact oB wm
 ·exact oB weq
 ·exact oB wm
 ·exact oB wm
 ·exact oB weq
 ·exact zBr
 ·exact oB wm
 ·exact oB wm
 ·exact oB weq
 ·exact zBr
 ·exact oB wa
 obtain rfl:=Option.some.inj hr
 exact zAZ (zAw (zAk (l':=[(2,.bool (((decide (p0=46))||(decide (p0=47)))||(decide (p0=92))))]) (zAA hX [] 4 rfl rfl wS trivial) rfl ⟨rfl,trivial⟩))
theorem f37_runs {p0:Str}{p1_0:Str}{r:Str}(hr:f37 p0 p1_0=some r) : Runs Tryz.prog 91 [.str p0,.ptr 0 0] [.bld 149 5 p1_0] (fun q Hq=>q=[]∧Hq=[.bld 149 5 r]):=by
 refine zAW Tryz.func91 Tryz.ntmps91 rfl (rs:=[]) rfl rfl fun w0 X hX=>?_
 refine sq<|rg<|V vm<|V vnt<|V vm<|nl<|an<|bl<|?_
 obtain ⟨h7,hr⟩:=zAN hr
 obtain ⟨o8,e9,hr⟩:=zA hr
 refine zAI (List.length p0 : Int) (f37_b0 p0) (fun p=>match p with | (i2,s4)=>(⟨[(0,.str p0),(1,.ptr 0 0),(5,.i (List.length p0 : Int)),(6,.i i2)],[(0,.bld 149 5 s4)],1⟩ : AS)) (fun o e st=>match o with | .inr _=>False | .inl s4=>e=.exit 0∧Wk X st ⟨[],[(0,.bld 149 5 s4)],1⟩) (of_decide_eq_true h7) e9 (by exact zAA hX [0] 4 rfl rfl wS wO) ?_ ?_
 ·intro e st hx
  rcases o8 with s4 | _
  ·obtain ⟨rfl,hw⟩:=hx
   obtain rfl:=Option.some.inj hr
   exact zAl (zCz (zAe (l':=[]) (Hs:=[(0,.bld 149 5 s4)]) (n:=1) (Wk.trans hw (zAA hX [0] 4 rfl rfl trivial wO)) rfl rfl rfl trivial))
  ·exact hx.elim
 ·rintro i2 s4 o ho
  refine sq<|rg<|V vls<|nl<|an<|sq<|?_
  refine zAO (b:=decide (i2 < (List.length p0 : Int))) rfl (fun hc10=>?_) (fun hc10=>?_)
  ·obtain ⟨q,hr,rfl⟩:=zA7 hc10 ho
   obtain ⟨o12,e13,hr⟩:=zA hr
   refine sk<|an<|sq<|bl<|sq<|rg<|V vm<|V va<|nl<|an<|?_
   refine zAy (S:=Str) (R:=Unit) (fun s=>match s with | s11=>(⟨[(0,.str p0),(1,.ptr 0 0),(3,.i i2),(5,.i (List.length p0 : Int)),(6,.i i2)],[(0,.bld 149 5 s11)],1⟩ : AS)) (fun _ _ _=>False) e13 (fun hr=>?_) ?_ ?_
   ·obtain ⟨x14,e15,hr⟩:=zA hr
    obtain ⟨x16,e17,hr⟩:=zA hr
    refine sq<|rg<|V vm<|V vm<|?_
    refine V (zBB (undX 9 rfl) rfl rfl e15)<|?_
    refine V (zAV (f38_runs e17).x ent92 rfl rfl)<|nl<|an<|?_
    refine cnd (fun hc18 hr=>?_) (fun hc18 hr=>?_)
    ·obtain ⟨x19,e20,hr⟩:=zA hr
     refine rg<|?_
     refine zAK (zAP (σ:=[0]) (as':=[.ptr 0 0,.int .u8 92]) (fWB_runs e20).x ent93 rfl ⟨cv0,cv0,trivial⟩ rfl rfl rfl ?_)
     obtain rfl:=Option.some.inj hr
     exact zAJ ((zAA hX [0] 4 rfl rfl wS wO))
    ·obtain rfl:=Option.some.inj hr
     exact zAv ((zAA hX [0] 4 rfl rfl wS wO))
   ·rintro s11 rfl
    obtain ⟨x21,e22,hr⟩:=zA hr
    obtain ⟨x23,e24,hr⟩:=zA hr
    refine rg<|V vm<|V vm<|?_
    refine V (zBB (undX 9 rfl) rfl rfl e22)<|?_
    refine zAK (zAP (σ:=[0]) (as':=[.ptr 0 0,.int .u8 ((UInt8.toNat x21 : Nat) : Int)]) (fWB_runs e24).x ent93 rfl ⟨cv0,cv0,trivial⟩ rfl rfl rfl ?_)
    refine nl<|bn<|an<|rg<|V vad<|V vm<|?_
    obtain rfl:=Option.some.inj hr
    exact zAJ ((zAA hX [0] 4 rfl rfl wS wO))
   ·exact fun r h e st hne hx=>hx.elim
  ·obtain rfl:=zA8 hc10 ho
   exact zAH (zAF (⟨rfl,(zAA hX [0] 4 rfl rfl trivial wO)⟩))
theorem f29_runs {p0:Str×Str}{r:Str}(hr:f29 p0=some r) : zBb Tryz.prog 72 [.agg [.str p0.1,.str p0.2]] [.str r]:=by
 refine zAW Tryz.func72 Tryz.ntmps72 rfl (rs:=[.tmp 2]) rfl rfl fun w0 X hX=>?_
 obtain ⟨x1,e2,hr⟩:=zA hr
 refine sq<|rg<|O ob<|V va<|nl<|an<|sq<|rg<|O oa<|?_
 refine zAG (wk_bld (i:=1) 5 rfl rfl)<|nl<|an<|sq<|rg<|V (zA4 (us:=[]) (vs:=[.ptr 1 0]) rfl rfl)<|V va<|nl<|an<|sq<|rg<|V vm<|V vfp<|V vlp<|?_
 refine zAK (aop_callOv (σ:=[1]) (as':=[.str p0.1]) rfl (f37_runs e2).x ent91 rfl ⟨cv0,cv0,trivial⟩ rfl rfl rfl ?_)
 obtain ⟨o4,e5,hr⟩:=zA hr
 refine nl<|an<|?_
 refine zAy (S:=Str) (R:=Unit) (fun s=>match s with | s3=>(⟨[(2,.str ([] : Str)),(3,.ptr 0 0)],[(0,.bld 149 5 s3)],1⟩ : AS)) (fun _ _ _=>False) e5 (fun hr=>?_) ?_ ?_
 ·refine sq<|rg<|V vfp<|V vlp<|V vns<|nl<|an<|?_
  refine cnd (fun hc6 hr=>?_) (fun hc6 hr=>?_)
  ·obtain ⟨x7,e8,hr⟩:=zA hr
   refine sq<|rg<|?_
   refine zAK (zAP (σ:=[1]) (as':=[.ptr 1 0,.int .u8 46]) (fWB_runs e8).x ent93 rfl ⟨cv0,cv0,trivial⟩ rfl rfl rfl ?_)
   obtain ⟨x9,e10,hr⟩:=zA hr
   refine nl<|an<|rg<|V vm<|V vfp<|V vlp<|?_
   refine zAK (aop_callOv (σ:=[1]) (as':=[.str p0.2]) rfl (f37_runs e10).x ent91 rfl ⟨cv0,cv0,trivial⟩ rfl rfl rfl ?_)
   obtain rfl:=Option.some.inj hr
   exact zAJ ((zAA hX [1] 4 rfl rfl wS wO))
  ·obtain rfl:=Option.some.inj hr
   exact zAv ((zAA hX [1] 4 rfl rfl wS wO))
 ·rintro s3 rfl
  obtain ⟨x11,e12,hr⟩:=zA hr
  refine sq<|rg<|?_
  refine zAK (zAP (σ:=[0]) (as':=[.ptr 0 0]) (fBS_runs e12).x ent94 rfl ⟨cv0,trivial⟩ rfl rfl rfl ?_)
  refine V va<|?_
  obtain rfl:=Option.some.inj hr
  exact nl<|an<|cr<|zAk (l':=[(2,.str x11)]) (zAA hX [] 4 rfl rfl wS trivial) rfl ⟨rfl,trivial⟩
 ·exact fun r h e st hne hx=>hx.elim
theorem zC6 {p0:ZN}{r:Str}(hr:f17 p0=some r) : zBb Tryz.prog 48 [.sl Y1 p0] [.str r]:=by
 refine zAW Tryz.func48 Tryz.ntmps48 rfl (rs:=[.tmp 2]) rfl rfl fun w0 X hX=>?_
 obtain ⟨o6,e7,hr⟩:=zA hr
 refine sq<|rg<|V va<|nl<|an<|sq<|rg<|V va<|nl<|an<|sq<|sq<|rg<|V vm<|V vnl<|V vm<|nl<|an<|bl<|?_
 refine zAb (t:=0) rfl (fun hl=>?_)
 refine zAI (List.length p0 : Int) (f17_b0 p0) (fun p=>match p with | (i1,s3)=>(⟨[(2,.str ([] : Str)),(3,.osl 0),(6,.sl Y1 p0),(7,.i (List.length p0 : Int)),(8,.i i1)],[(0,.sl 9 .str s3)],1⟩ : AS)) (fun o e st=>match o with | .inr _=>False | .inl s3=>e=.exit 0∧Wk X st ⟨[(2,.str ([] : Str)),(3,.osl 0)],[(0,.sl 9 .str s3)],1⟩) (zAf hl) e7 (Wk.trans (zAt (t:=3) 9 .str rfl) (by exact zAA hX [0] 4 rfl rfl wS wO)) ?_ ?_
 ·intro e st hx
  rcases o6 with s3 | _
  ·obtain ⟨rfl,hw⟩:=hx
   obtain ⟨x8,e9,hr⟩:=zA hr
   refine bh<|an<|(zAY hw)<|sq<|rg<|V vm<|?_
   refine V (zAj (as':=[.osl 0,.str ([47] : Str)]) (fJoin_runs e9).x ent73 rfl ⟨cv0,cv0,trivial⟩ rfl rfl)<|V va<|?_
   obtain rfl:=Option.some.inj hr
   exact nl<|an<|cr<|zAk (l':=[(2,.str x8)]) (zAA hX [] 4 rfl rfl wS trivial) rfl ⟨rfl,trivial⟩
  ·exact hx.elim
 ·rintro i1 s3 o ho
  refine sq<|rg<|V vls<|nl<|an<|sq<|?_
  refine zAO (b:=decide (i1 < (List.length p0 : Int))) rfl (fun hc10=>?_) (fun hc10=>?_)
  ·obtain ⟨q,hr,rfl⟩:=zA7 hc10 ho
   obtain ⟨x11,e12,hr⟩:=zA hr
   obtain ⟨x13,e14,hr⟩:=zA hr
   refine sk<|an<|sq<|bl<|sq<|rg<|V (zAQ (t:=Y1) (e:=x11) (undX 23 rfl) (szX 34 rfl) rfl rfl e12)<|V vlR<|O oa<|O os<|nl<|an<|rg<|V vm<|V vlP<|?_
   refine V (zAV (f29_runs e14).x ent72 rfl rfl)<|?_
   refine V (zAM (t:=.str) (qs:=[(0,[.str x13])]) (ys:=[x13]) bs49 rfl rfl rfl rfl rfl rfl rfl rfl)<|?_
   obtain ⟨h15,hr⟩:=zAN hr
   refine zAK (zAh rfl rfl app49 rfl rfl rfl h15 rfl ?_)
   refine V va<|nl<|bn<|an<|rg<|V vad<|V vm<|?_
   obtain rfl:=Option.some.inj hr
   exact zAJ ((zAA hX [2] 4 rfl rfl wS wO))
  ·obtain rfl:=zA8 hc10 ho
   exact zAH (zAF (⟨rfl,(zAA hX [0] 4 rfl rfl wS wO)⟩))
end Go.Ab
