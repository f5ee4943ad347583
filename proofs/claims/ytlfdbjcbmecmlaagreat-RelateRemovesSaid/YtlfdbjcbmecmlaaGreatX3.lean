/- Lemmas for a law of the seat: what functions of the program do, each stated as a contract of its own (X3). -/
import Derived.Test.YtlfdbjcbmecmlaaGreatX2
import Derived.Test.YtlfdbjcbmecmlaaGreatChecked
import Derived.Shelf.SlGeneric
import Derived.Ground.NamesProg
import Derived.Ground.Names2Prog
import Derived.Ground.GgzProg
import Derived.Ground.SlmcProg
import Derived.Shelf.Sort.Plain
import Derived.Shelf.Slices.In.SortNone
import Derived.Shelf.Slices.CompactI
import Derived.Shelf.SlIterI.Nil
import Derived.Shelf.SlMaps.Clone
import Derived.Test.YtlfdbjcbmecmlaaGreatProg
set_option linter.unusedVariables false
set_option linter.unusedSimpArgs false
namespace Go.Ab
open Go.RowKit Go.Shelf Go.Proofs Go.Eng

abbrev DrawT:=List (List Bool×AS×List Nat)
def boolsB : List Bool→List Bool→Bool
 | [],[]=>true
 | true::r,true::s=>boolsB r s
 | false::r,false::s=>boolsB r s
 | _,_=>false
theorem boolsB_eq : ∀ {l r:List Bool},boolsB l r=true→l=r:=by
 intro l
 induction l with
 | nil=>intro r h; cases r with
  | nil=>rfl
  | cons=>simp [boolsB] at h
 | cons a l ih=>intro r h; cases r with
  | nil=>cases a <;> simp [boolsB] at h
  | cons b r=>cases a <;> cases b <;> simp only [boolsB] at h <;> first | (rw [ih h]) | cases h
def lookD : DrawT→List Bool→Option AS
 | [],_=>none
 | q::t,L=>bif boolsB q.1 L then some q.2.1 else lookD t L
def readyB (ops:List Oper) (L:List Bool) (i:Nat) : Bool:=(match L[i]? with
 | some false=>true
 | _=>false)&&match ops[i]? with
 | some o=>o.after.toList.all fun e=>!Region.binds .any e||(match L[e.on]? with
  | some true=>true
  | _=>false)
 | none=>false
def natsB : List Nat→List Nat→Bool
 | [],[]=>true
 | a::r,b::s=>Nat.beq a b&&natsB r s
 | _,_=>false
theorem natsB_eq : ∀ {l r:List Nat},natsB l r=true→l=r:=by
 intro l
 induction l with
 | nil=>intro r h; cases r with
  | nil=>rfl
  | cons=>simp [natsB] at h
 | cons a l ih=>intro r h; cases r with
  | nil=>simp [natsB] at h
  | cons b r=>simp only [natsB,Bool.and_eq_true] at h; rw [Nat.eq_of_beq_eq_true h.1,ih h.2]
def drawTOk (ops:List Oper) (tbl:DrawT) : Bool:=tbl.all fun q=>Nat.beq q.1.length ops.length&&natsB ((List.range ops.length).filter (readyB ops q.1)) q.2.2
def ObD1 (P:Program) (N:Ev) (X:Cx) (ops:List Oper) (tbl:DrawT) (L:List Bool) (s:AS) : List Nat→Prop
 | []=>True
 | i::r=>(∃ o s',ops[i]?=some o∧lookD tbl (L.set i true)=some s'∧AOp P N X o (fun s1=>Wk X s1 s') s)∧ObD1 P N X ops tbl L s r
def ObD (P:Program) (N:Ev) (X:Cx) (ops:List Oper) (tbl:DrawT) : DrawT→Prop
 | []=>True
 | q::t=>ObD1 P N X ops tbl q.1 q.2.1 q.2.2∧ObD P N X ops tbl t
section
variable {P:Program} {N:Ev} {X:Cx} {Q:zBa} {st:AS}
theorem ObD1.at {ops:List Oper}{tbl:DrawT}{L:List Bool}{s:AS} : ∀ {r:List Nat},ObD1 P N X ops tbl L s r→∀ i∈r,∃ o s',ops[i]?=some o∧lookD tbl (L.set i true)=some s'∧AOp P N X o (fun s1=>Wk X s1 s') s:=by
 intro r
 induction r with
 | nil=>intro _ i hi; cases hi
 | cons j r ih =>
  intro h i hi; rcases List.mem_cons.1 hi with rfl | hi
  ·exact h.1
  exact ih h.2 i hi
theorem ObD.at {ops:List Oper}{tbl:DrawT} : ∀ {t:DrawT},ObD P N X ops tbl t→∀ {L:List Bool}{s:AS},lookD t L=some s→∃ r,(L,s,r)∈t∧ObD1 P N X ops tbl L s r:=by
 intro t
 induction t with
 | nil=>intro _ L s h; cases h
 | cons q t ih =>
  intro h L s hl
  simp only [lookD] at hl
  cases hb : boolsB q.1 L with
  | true=>rw [hb,cond_true] at hl; cases hl; have e:=boolsB_eq hb; subst e; exact ⟨q.2.2,List.mem_cons.2 (.inl rfl),h.1⟩
  | false=>rw [hb,cond_false] at hl; obtain ⟨r,h1,h2⟩:=ih h.2 hl; exact ⟨r,List.mem_cons_of_mem _ h1,h2⟩
theorem SH.drawn {e w:World}{m:Mem}{f:Frag}(h:SH e w m f) (k:Nat) : SH e { w with drawn:=k } m f:=⟨h.os,h.tape,h.output,h.fz,h.own,h.nd,h.dis,h.noctl,h.mctl,h.esz⟩
theorem Conc.drawn {fr:Fr}{w:World}{m:Mem}{ρ:List Value}{φ:List Frag}(h:Conc X st fr w m ρ φ) (k:Nat) : Conc X st fr { w with drawn:=k } m ρ φ:=⟨h.mle,h.pre,h.nρ,h.nφ,h.slots,h.objs,h.sh.drawn k⟩
theorem awc_drawS {id:Nat}{ops:List Oper}(hm:P.follows .mixedOrders=true) (tbl:DrawT) (st0 stE:AS) (hw:Wk X st st0) (hok:drawTOk ops tbl=true) (hback:backOk ops=true) (hgu:(ops.all fun o=>o.guard.isNone)=true) (h0:lookD tbl (List.replicate ops.length false)=some st0) (hE:lookD tbl (List.replicate ops.length true)=some stE) (hob:ObD P N X ops tbl tbl) (k:Q .normal stE) : AWC P N X (.region id ops.toArray true) Q st:=by
 intro fr w m ρ φ hc a ha hg
 obtain ⟨m,ρ,φ,hc⟩:=hw fr w m ρ φ hc
 refine wpIn_region_any hm ?_
 have hall : ∀ listed : Array Bool,listed.size=ops.length→Region.ready .any ops.toArray listed=[]→listed.toList=List.replicate ops.length true:=by
  intro listed hs hr
  have key : ∀ i,i < ops.length→listed[i]?=some true:=by
   intro i
   induction i using Nat.strongRecOn with
   | _ i ih =>
    intro hi
    rcases hl : listed[i]? with _ | b
    ·simp at hl; omega
    cases b with
    | true=>rfl
    | false =>
     exfalso
     have : i∈Region.ready .any ops.toArray listed:=by
      simp only [Region.ready,List.mem_filter,List.mem_range,List.size_toArray]
      refine ⟨hi,?_⟩
      simp only [Array.getD_eq_getD_getElem?,hl,Option.getD_some,Bool.not_false,Bool.true_and]
      have ho0 : ops[i]?=some (ops[i]'hi):=List.getElem?_eq_getElem hi
      have ho : ops.toArray[i]?=some (ops[i]'hi):=by simp
      simp only [ho,Option.map_some,Option.getD_some,Array.all_eq_true']
      intro e he
      by_cases hb : Region.binds .any e=true
      ·have hlt:=back_of hback i _ ho0 e he hb
       simp only [hb,Bool.not_true,Bool.false_or]
       rw [ih e.on hlt (by omega)]; rfl
      simp [hb]
     rw [hr] at this
     cases this
  refine List.ext_getElem? fun i=>?_
  rw [Array.getElem?_toList]
  by_cases hi : i < ops.length
  ·rw [key i hi,List.getElem?_replicate,if_pos hi]
  rw [List.getElem?_replicate,if_neg hi]; simp; omega
 have hrow:=List.all_eq_true.1 hok
 have main : ∀ (fuel:Nat) (listed:Array Bool) (a:Act) (W:World) (s:AS) (fr:Fr) (m:Mem) (ρ:List Value) (φ:List Frag),lookD tbl listed.toList=some s→Conc X s fr W m ρ φ→Holds N fr a→Eng.Good N a W→listed.size=ops.length→(listed.toList.filter (! ·)).length≤fuel →
   wpAnyIn (FW N.ro) 0 P .any ops.toArray (up N (upQ X Q)) fuel listed a W:=by
  intro fuel
  have fin : ∀ (listed:Array Bool) (a:Act) (W:World) (s:AS) (fr:Fr) (m:Mem) (ρ:List Value) (φ:List Frag),lookD tbl listed.toList=some s→Conc X s fr W m ρ φ→Holds N fr a→Eng.Good N a W→listed.toList=List.replicate ops.length true→up N (upQ X Q) .normal a W:=by
   intro listed a W s fr m ρ φ h1 h2 h3 h4 h5
   rw [h5,hE] at h1
   cases h1
   exact ⟨fr,h3,h4,stE,m,ρ,φ,h2,k⟩
  induction fuel with
  | zero =>
   intro listed a W s fr m ρ φ h1 h2 h3 h4 hs hf
   have hr : Region.ready .any ops.toArray listed=[]:=by
    simp only [Region.ready,List.filter_eq_nil_iff,List.mem_range,List.size_toArray]
    intro i hi
    have hfl : listed.toList.filter (! ·)=[]:=List.eq_nil_of_length_eq_zero (by omega)
    rw [List.filter_eq_nil_iff] at hfl
    have hlt : i < listed.size:=by omega
    have hm:=hfl listed[i] (by simp)
    have : listed[i]=true:=by simpa using hm
    simp [Array.getD_eq_getD_getElem?,Array.getElem?_eq_getElem hlt,this]
   exact ⟨hr,fin listed a W s fr m ρ φ h1 h2 h3 h4 (hall listed hs hr)⟩
  | succ fuel ih =>
   intro listed a W s fr m ρ φ h1 h2 h3 h4 hs hf
   refine ⟨fun hr=>fin listed a W s fr m ρ φ h1 h2 h3 h4 (hall listed hs hr),fun i hi=>?_⟩
   obtain ⟨r,hr1,hr2⟩:=hob.at h1
   have hq:=hrow _ hr1
   rw [Bool.and_eq_true] at hq
   have hrl : (List.range ops.length).filter (readyB ops listed.toList)=r:=natsB_eq hq.2
   simp only [Region.ready,List.mem_filter,List.mem_range,List.size_toArray] at hi
   obtain ⟨hlt,hi⟩:=hi
   rw [Bool.and_eq_true] at hi
   obtain ⟨hun,hrd⟩:=hi
   have ho : ops[i]?=some (ops[i]'hlt):=List.getElem?_eq_getElem hlt
   have ho' : ops.toArray[i]?=some (ops[i]'hlt):=by simp
   have hun' : listed[i]?=some false:=by
    have hlt' : i < listed.size:=by omega
    rw [Array.getElem?_eq_getElem hlt']
    simp only [Array.getD_eq_getD_getElem?,Array.getElem?_eq_getElem hlt',Option.getD_some] at hun
    simpa using hun
   have him : i∈r:=by
    rw [← hrl,List.mem_filter]
    refine ⟨List.mem_range.2 hlt,?_⟩
    unfold readyB
    rw [Array.getElem?_toList,hun',ho]
    simp only [Bool.true_and,List.all_eq_true]
    intro e he
    rw [ho'] at hrd
    simp only [Option.map_some,Option.getD_some,Array.all_eq_true'] at hrd
    have h6:=hrd e (Array.mem_toList_iff.1 he)
    rw [Bool.or_eq_true] at h6 ⊢
    rcases h6 with h6 | h6
    ·exact .inl h6
    refine .inr ?_
    rw [Array.getElem?_toList]
    rw [Array.getD_eq_getD_getElem?] at h6
    rcases h8 : listed[e.on]? with _ | b
    ·rw [h8] at h6; simp at h6
    rw [h8] at h6; simp at h6; rw [h6]
   obtain ⟨o,s',g1,g2,g3⟩:=hr2.at i him
   rw [ho] at g1
   cases g1
   have hcount:=count_set hun' hf
   have hgd : (ops[i]'hlt).guard=none:=by
    have:=List.all_eq_true.1 hgu _ (List.getElem_mem hlt)
    simpa using this
   unfold wpOpIn
   rw [ho']
   simp only []
   rw [if_pos (by simp [Region.wanted,hgd])]
   refine Oper.wpIn_mono ?_ (g3 (upQ X Q) fr W m ρ φ h2 a h3 h4)
   rintro a' W' ⟨l',hl',hg',s1,m1,ρ1,φ1,hc1,hw1⟩
   obtain ⟨m2,ρ2,φ2,hc2⟩:=hw1 _ _ _ _ _ hc1
   exact ih _ a' W' s' l' m2 ρ2 φ2 (by rw [Array.toList_setIfInBounds]; exact g2) hc2 hl' hg' (by simp [hs]) hcount
 refine main _ _ _ _ st0 fr m ρ φ (by simpa using h0) (hc.drawn _) ha (hg.step rfl (fun _ _ h _ _=>h) (Nat.le_refl _)) (by simp) (by simp)
end
end Go.Ab
namespace Go.Ab
open Go.RowKit Go.Shelf Go.Proofs Go.Eng

section
variable {P:Program} {N:Ev} {X:Cx} {Q:zBa} {st:AS}
variable {d:Nat} {T U T':TypeId} {pos:String} {aft:Array Edge} {g:Option (Nat×Bool)} {x y z:Operand} {k:IntKind} {a:Int}

theorem av_index_agg1 {cs:List AV}{u:AV}{n E:Nat}(hU:Und P T (.array n E)) (hT:TyS P E false 1) (hn:Nat.beq cs.length n=true) (hx:aev st.l x=some (.agg cs)) (hy:aev st.l y=some (.int k a)) (h:ix cs a=some u) (hN:Nat.blt d N.n=true:=by rfl) : AOpV P N X ⟨some d,.index T x y,U,pos,aft,g⟩ u st :=
 zA6 rfl fun Q fr w m ρ φ hc=>by
  obtain ⟨h1,h2,h3⟩:=ix_some h
  obtain ⟨p,g1,g2⟩:=hc.ev hx
  simp only [RepA] at g2
  obtain ⟨us,rfl,g3,g4⟩:=g2
  obtain ⟨v,g5,g6⟩:=g3.get h3
  have hn:=Nat.eq_of_beq_eq_true hn
  have hlt : a.toNat < us.length:=(List.getElem?_eq_some_iff.1 g5).1
  have g7 : us[a.toNat]=v:=by rw [List.getElem?_eq_getElem hlt] at g5; exact Option.some.inj g5
  refine ⟨v,g6,fun K hk=>op_index g1 (hc.int hy) (fun w=>?_) hN hk⟩
  have h2' : a < (n:Int):=by omega
  simp [Instr.index,asIntOf,run_underlying hU,part,hT.1 w,hT.2 w,h1,h2',List.extract_eq_take_drop,g7,g5]
theorem ix_map {α β:Type}{l:List α}{f:α→β}{i:Int}{e:α}(h:ix l i=some e) : ix (l.map f) i=some (f e):=by
 unfold ix at h ⊢
 split at h
 ·rename_i h0; rw [if_pos h0,List.getElem?_map,h]; rfl
 cases h
theorem av_index_aggI {l:List Int}{n E:Nat}{kk:IntKind}{e:Int}(hU:Und P T (.array n E)) (hT:TyS P E false 1) (hn:Nat.beq l.length n=true) (hx:aev st.l x=some (.agg (l.map (.int kk)))) (hy:aev st.l y=some (.int k a)) (h:ix l a=some e) (hN:Nat.blt d N.n=true:=by rfl) : AOpV P N X ⟨some d,.index T x y,U,pos,aft,g⟩ (.int kk e) st :=
 av_index_agg1 hU hT (by simpa using hn) hx hy (ix_map h) hN
theorem av_index_fn {l:List Nat}{n E:Nat}{e:Nat}(hU:Und P T (.array n E)) (hT:TyS P E false 1) (hn:Nat.beq l.length n=true) (hx:aev st.l x=some (.agg (l.map fun f=>.fn f [] []))) (hy:aev st.l y=some (.int k a)) (h:ix l a=some e) (hN:Nat.blt d N.n=true:=by rfl) : AOpV P N X ⟨some d,.index T x y,U,pos,aft,g⟩ (.fn e [] []) st :=
 av_index_agg1 hU hT (by simpa using hn) hx hy (ix_map (f:=fun f=>AV.fn f [] []) h) hN

theorem run_appendC {w:World}{m:Mem}{E bytes n c o b:Nat}{t:Ty}{ys:List t.den}{v:Value}{A:Option Addr}{vs us:List Value}{ty:TypeId}(hT:AppT P T E t.cells bytes) (hown:w.ownsRow 0 E t.cells v n vs) (hA:(ys=[]∧us=[])∨(A=some ⟨b,o,none⟩∧zCX w b o us)) (h4:zBo m t ys us) (hb:apOk bytes (n+ys.length)=true) (hn:n+ys.length≤zC8) :
  ∃ v' w',(Builtin.append_ #[T,T] ty #[v,.slice A ys.length c]).run P w=.ok v' w'∧w'.ownsRow 0 E t.cells v' (n+ys.length) (vs++us)∧w.grownBy w' v.ownBlock∧(v'.ownBlock=v.ownBlock∨v'.ownBlock=some w.heap.size):=by
 obtain ⟨hU,hsz,i,z,hi,hz,hsize,hby,hzs⟩:=hT
 have hb':=Nat.le_of_ble_eq_true hb
 rcases hA with ⟨rfl,rfl⟩ | ⟨rfl,hcells⟩
 ·refine ⟨v,w,?_,by simpa using hown,⟨rfl,rfl,rfl,Nat.le_refl _,fun _ _ _=>rfl⟩,.inl rfl⟩
  rcases hown.2 with ⟨rfl,rfl⟩ | ⟨q,cap,cur,rfl,_,g2,g3,_⟩
  ·cases A with
   | none=>simp [Builtin.append_,run_underlying hU,sizeOf,typeInfo,hi,Builtin.lenOf,Builtin.firstCells,loadCells,loadCellsFrom]
   | some A=>simp [Builtin.append_,run_underlying hU,sizeOf,typeInfo,hi,Builtin.lenOf,Builtin.firstCells,loadCells,loadCellsFrom]
  cases A with
  | none=>simp [Builtin.append_,run_underlying hU,sizeOf,typeInfo,hi,Builtin.lenOf,Builtin.firstCells,loadCells,loadCellsFrom,g3,storeCells]
  | some A=>simp [Builtin.append_,run_underlying hU,sizeOf,typeInfo,hi,Builtin.lenOf,Builtin.firstCells,loadCells,loadCellsFrom,g3,storeCells]
 have hmax : n+ys.length≤maxLen:=by
  have : zC8=140737488355328:=rfl
  simp only [maxLen]; omega
 obtain ⟨v',w',hr,g2,g3,g4,g5⟩:=run_append_own_at (P:=P) (w:=w) 0 T ty E i z t.cells bytes hU hi hz hsize hby hzs hsz v n vs hown ⟨b,o,none⟩ ys.length c us h4.len (fun j u hj=>by rw [zCu]; exact hcells j u hj) h4.one hmax hb' (Nat.zero_le _)
 exact ⟨v',w',hr,g2,g3,g5⟩
theorem zCk {s:Operand}{i E E' bytes:Nat}{t:Ty}{ys:List t.den}{cl:Array Operand}{ts:Array TypeId}{K:AS→Prop}(hcl:cl=#[s,x]) (hts:ts=#[T,T]) (hT:AppT P T E t.cells bytes) (hs:aev st.l s=some .nils) (hx:aev st.l x=some (.osl i)) (hH:st.H.get i=.sl E' t ys) (hb:apOk bytes ys.length=true) (hB:Nat.ble 1 bytes=true)
  (k:K (st.new d (.osl st.n) (.sl E t ys))) (hN:Nat.blt d N.n=true:=by rfl) :
  AOp P N X ⟨some d,.call ⟨.builtin .append,cl,ts⟩,U,pos,aft,g⟩ K st :=
 zBH fun Q fr w m ρ φ hc K' hK=>by
  subst hcl hts
  obtain ⟨v,h1,h2⟩:=hc.ev hs
  obtain ⟨u,h3,h4⟩:=hc.ev hx
  simp only [RepA] at h2 h4
  subst h2
  obtain ⟨f,hf,ho,hw⟩:=hc.obj h4.1
  rw [hH] at ho
  obtain ⟨h0,ho⟩:=ho
  obtain ⟨A,c,b,us,rfl,hA,hrows⟩ : ∃ A c b us,u=.slice A ys.length c∧((ys=[]∧us=[])∨(A=some ⟨b,0,none⟩∧zCX w b 0 us))∧zBo m t ys us:=by
   rcases ho with ⟨rfl,rfl,_⟩ | ⟨b,c,cs,vs,rfl,rfl,q1,q2,q3,q4,q5⟩
   ·exact ⟨none,0,0,[],rfl,.inl ⟨rfl,rfl⟩,zBo.nil⟩
   refine ⟨_,c,b,vs,rfl,.inr ⟨rfl,?_⟩,q4⟩
   intro j v hj
   have hb:=hw (b,_) (List.mem_singleton.2 rfl)
   have h9 : cs[0+j]?=some v:=by
    rw [Nat.zero_add,← Array.getElem?_toList]
    rw [← q5,List.getElem?_take] at hj
    split at hj
    ·exact hj
    cases hj
   exact cell_blk hb h9
  have hlen : 0+ys.length≤zC8:=by omega
  obtain ⟨v',w',hr,g2,g3,g4⟩:=run_appendC (ty:=U) (n:=0) (c:=c) hT (World.ownsRow_nil w 0 E t.cells) hA hrows (by rw [Nat.zero_add]; exact hb) hlen
  obtain ⟨f',g5,g6⟩:=SH.grown (f:=[]) (r:=φ.flatten++X.F) (by simpa using hc.sh) (.inl ⟨rfl,rfl⟩) g3 g2 g4
  have hone : v'.oneCell'=true:=by
   rcases g6 with ⟨rfl,_⟩ | ⟨_,_,_,rfl,_⟩ <;> rfl
  simp only [Nat.zero_add,List.nil_append] at g2 g6 hlen
  refine zAo (v:=v') (w':=w') rfl hN (fun a ha=>?_) ?_ (dk_grown (World.ownsRow_nil w 0 E t.cells) g3)
  ·simp [execOp,resolve,invoke,builtin,ha.eval h1,ha.eval h3,hr]
  refine hK _ _ _ _ _ _ (hc.newObj (h:=v') (d:=d) (av:=.osl st.n) (v:=v') (Mem.le_refl _) g5 ?_ ?_) k
  ·refine ⟨hlen,?_⟩
   rcases g6 with ⟨rfl,h7,rfl⟩ | ⟨q,cap,cur,rfl,rfl,h8,h9,h10,h11⟩
   ·left
    have hy0 : ys=[]:=List.eq_nil_of_length_eq_zero (by omega)
    subst hy0
    exact ⟨rfl,rfl,rfl⟩
   exact .inr ⟨q,cap,cur,us,rfl,rfl,h8,h9,h10,hrows,h11⟩
  simp only [RepA]
  exact ⟨by rw [← hc.nρ]; simp,hone⟩
theorem av_append_nilF {s:Operand}{E bytes:Nat}{t:Ty}{ys:List t.den}{cl:Array Operand}{ts:Array TypeId}(hcl:cl=#[s,x]) (hts:ts=#[T,T]) (hT:AppT P T E t.cells bytes) (hs:aev st.l s=some .nils) (hx:aev st.l x=some (.sl t ys)) (hb:apOk bytes ys.length=true) (hB:Nat.ble 1 bytes=true) (hN:Nat.blt d N.n=true:=by rfl) :
  AOpV P N X ⟨some d,.call ⟨.builtin .append,cl,ts⟩,U,pos,aft,g⟩ (.sl t ys) st:=by
 intro Q fr w m ρ φ hc
 subst hcl hts
 obtain ⟨v,h1,h2⟩:=hc.ev hs
 obtain ⟨u,h3,h4⟩:=hc.ev hx
 simp only [RepA] at h2 h4
 subst h2
 have hlen : 0+ys.length≤zC8:=by
  have h5:=Nat.le_of_ble_eq_true hb
  have h6:=Nat.le_of_ble_eq_true hB
  rw [Nat.zero_add]
  exact Nat.le_trans (Nat.le_mul_of_pos_right _ h6) h5
 obtain ⟨v',w',us,hr,g1,g2,g3,g4⟩:=run_append (ty:=U) (n:=0) hT hc.sh (World.ownsRow_nil w 0 E t.cells) h4 (by rw [Nat.zero_add]; exact hb) hlen
 obtain ⟨f',g5,g6⟩:=SH.grown (f:=[]) (r:=φ.flatten++X.F) (by simpa using hc.sh) (.inl ⟨rfl,rfl⟩) g3 g2 g4
 simp only [Nat.zero_add,List.nil_append] at g2 g6 hlen
 have hsl : SlRep m E t ys v' f':=by
  refine ⟨hlen,?_⟩
  rcases g6 with ⟨rfl,h7,rfl⟩ | ⟨q,cap,cur,rfl,rfl,h8,h9,h10,h11⟩
  ·left
   have hy0 : ys=[]:=List.eq_nil_of_length_eq_zero (by omega)
   subst hy0
   exact ⟨rfl,rfl,rfl⟩
  exact .inr ⟨q,cap,cur,us,rfl,rfl,h8,h9,h10,g1,h11⟩
 have hbl : Below w.heap.size w w':=⟨g3.os,g3.tape,g3.output,g3.size,fun k hk=>g3.block k hk (by simp [Value.ownBlock])⟩
 have hnd:=g5.nd
 rw [List.map_append,List.nodup_append] at hnd
 refine zAo (v:=v') (w':=w') rfl hN (fun a ha=>?_) ?_ (dk_grown (World.ownsRow_nil w 0 E t.cells) g3)
 ·simp [execOp,resolve,invoke,builtin,ha.eval h1,ha.eval h3,hr]
 refine ⟨d,v',rfl,rfl,hbl,m.add f',Mem.le_add _ _,g5.frz,?_⟩
 simp only [RepA]
 exact slrep_rc (Mem.le_add _ _) hsl fun p hp hpc=>add_get hnd.1 hp (g5.dis p (List.mem_append.2 (.inl hp))) hpc
end
end Go.Ab
namespace Go.Ab
open Go.RowKit Go.Shelf Go.Proofs Go.Eng
section
variable {P:Program} {N:Ev} {X:Cx} {Q:zBa} {st:AS}
theorem awl_opG {ops:Array Oper}{o:Oper}{rest:List Oper}{j dj:Nat}{b c:Bool}(hg:o.guard=some (j,b)) (hj:(ops[j]?).bind (·.dst)=some dj) (hl:st.l.look dj=some (.bool c)) (hcb:c=b) (h:AOp P N X o (AWL P N X ops Q rest) st) : AWL P N X ops Q (o::rest) st:=by
 subst hcb
 intro fr w m ρ φ hc a ha hgd
 obtain ⟨v,h1,h2⟩:=hc.slots _ _ hl
 simp only [RepA] at h2
 subst h2
 unfold wpListIn
 rw [if_pos (by simp only [Region.wanted,hg]; rw [yielded_of ha hj h1]; simp)]
 refine Oper.wpIn_mono ?_ (h (upQ X Q) fr w m ρ φ hc a ha hgd)
 rintro a' w' ⟨l',hl',g',s1,m1,ρ1,φ1,hc1,k1⟩
 exact k1 _ _ _ _ _ hc1 a' hl' g'
theorem awl_skipG {ops:Array Oper}{o:Oper}{rest:List Oper}{j dj d:Nat}{b c:Bool}(hg:o.guard=some (j,b)) (hj:(ops[j]?).bind (·.dst)=some dj) (hl:st.l.look dj=some (.bool c)) (hcb:c=!b) (hd:o.dst=some d) (hN:Nat.blt d N.n=true) (h:AWL P N X ops Q rest (st.put d .any)) : AWL P N X ops Q (o::rest) st:=by
 subst hcb
 intro fr w m ρ φ hc a ha hgd
 obtain ⟨v,h1,h2⟩:=hc.slots _ _ hl
 simp only [RepA] at h2
 subst h2
 unfold wpListIn
 rw [if_neg (by simp only [Region.wanted,hg]; rw [yielded_of ha hj h1]; cases b <;> simp)]
 refine ⟨fun _ _=>trivial,?_⟩
 rw [hd]
 exact h _ _ _ _ _ (hc.put (d:=d) (a:=.any) (v:=undef) (by simp only [RepA])) _ (ha.put (by simpa using hN) undef) (hgd.step rfl (fun _ _ h _ _=>h) (Nat.le_refl _))
theorem wk_trvar {t i:Nat}{T:TypeId}{cs:List AV}(hx:st.l.look t=some (.map i)) (hH:st.H.get i=.var T cs) : Wk X st (st.put t (.ptr i 0)) :=
 wk_slot hx fun fr w m ρ φ v hc h=>by
  simp only [RepA] at h ⊢
  obtain ⟨f,hf,hor,hw⟩:=hc.obj h.1
  rw [hH] at hor
  obtain ⟨b,us,rfl,_⟩:=hor
  exact ⟨b,h.1,rfl⟩
theorem awc_by {c:Code}(b:Bool) (h1:b=true→AWC P N X c Q st) (h2:b=false→AWC P N X c Q st) : AWC P N X c Q st:=by
 cases b with
 | true=>exact h1 rfl
 | false=>exact h2 rfl
variable {d:Nat} {T U T':TypeId} {pos:String} {aft:Array Edge} {g:Option (Nat×Bool)} {x y z:Operand}
theorem av_pickT {b:Bool}{a:AV}(hc:aev st.l x=some (.bool b)) (hb:b=true) (hx:aev st.l y=some a) (hN:Nat.blt d N.n=true:=by rfl) : AOpV P N X ⟨some d,.pick x y z,U,pos,aft,g⟩ a st :=
 zA6 rfl fun Q fr w m ρ φ hcc=>by
  subst hb
  obtain ⟨v,h1,h2⟩:=hcc.ev hc
  obtain ⟨u,h3,h4⟩:=hcc.ev hx
  simp only [RepA] at h2
  subst h2
  exact ⟨u,h4,fun K hk=>zAo rfl hN (fun ac ha=>by simp [execOp,ha.eval h1,ha.eval h3,asBool]) hk⟩
theorem av_pickF {b:Bool}{a:AV}(hc:aev st.l x=some (.bool b)) (hb:b=false) (hx:aev st.l z=some a) (hN:Nat.blt d N.n=true:=by rfl) : AOpV P N X ⟨some d,.pick x y z,U,pos,aft,g⟩ a st :=
 zA6 rfl fun Q fr w m ρ φ hcc=>by
  subst hb
  obtain ⟨v,h1,h2⟩:=hcc.ev hc
  obtain ⟨u,h3,h4⟩:=hcc.ev hx
  simp only [RepA] at h2
  subst h2
  exact ⟨u,h4,fun K hk=>zAo rfl hN (fun ac ha=>by simp [execOp,ha.eval h1,ha.eval h3,asBool]) hk⟩
end
end Go.Ab
namespace Go.Ab
abbrev ZA:=Int×Int×Int×Int×Str×Str×Str×Str×List Int
abbrev ZO:=Str×Int×Int×Int×Int×Int
abbrev ZS:=Str×List (ZO)
abbrev ZR:=List (ZS)×List (Int×Int×Str)×List (Int×Str×List Int)×Int×Int
abbrev ZW:=List (ZS)×List (Int×(Int×Int×Str))×List (Int×(Int×Str×List Int))×Int×Int
end Go.Ab
set_option maxRecDepth 100000
namespace Go.Ab
theorem J {α : Sort _} {a : α} : a=a:=rfl
open Go.RowKit Go.Shelf Go.Proofs Go.Eng
abbrev _root_.Go.Value.i (z:Int) : Value:=.int .i64 z
abbrev AV.i (z:Int) : AV:=.int .i64 z
abbrev Ty.i : Ty:=.int .i64
abbrev Y1 : Ty:=.st (.pair .str (.pair (.int .i64) (.pair (.int .i64) (.pair (.int .i64) (.pair (.int .i64) (.int .i64))))))
abbrev Y2 : Ty:=.st (.pair .str (.slice Y1))
abbrev Y3 : Ty:=.st (.pair (.int .i64) (.pair (.int .i64) (.pair (.int .i64) (.pair (.int .i64) (.pair .str (.pair .str (.pair .str (.pair .str (.slice (.int .i64))))))))))
abbrev Y4 : Ty:=.st (.pair (.int .i64) (.pair (.int .i64) .str))
abbrev Y5 : Ty:=.st (.pair (.int .i64) (.pair .str (.slice (.int .i64))))
abbrev Y6 : Ty:=.st (.pair (.int .i64) (.int .i64))
abbrev F76 : OT:=(.pair (.dat (.slice Y2)) (.pair (.mp .i (.dat Y4)) (.pair (.mp .i (.dat Y5)) (.pair (.dat .i) (.dat .i)))))
abbrev E76 : OT:=.pt 76 F76
abbrev F80 : OT:=(.pair (.dat (.slice Y2)) (.pair (.sl 54 (.dat Y4)) (.pair (.sl 42 (.dat Y5)) (.pair (.dat .i) (.dat .i)))))
abbrev E80 : OT:=.pt 80 F80
abbrev A35 (p:ZA) : List AV:=[.i p.1,.i p.2.1,.i p.2.2.1,.i p.2.2.2.1,.str p.2.2.2.2.1,.str p.2.2.2.2.2.1,.str p.2.2.2.2.2.2.1,.str p.2.2.2.2.2.2.2.1,.sl .i p.2.2.2.2.2.2.2.2]
abbrev W76 (p:ZW) (a b:Nat) : List AV:=[.sl Y2 p.1,.map a,.map b,.i p.2.2.2.1,.i p.2.2.2.2]
abbrev D76 (p:ZW) : List AV:=[.sl Y2 p.1,.dm .i Y4 p.2.1,.dm .i Y5 p.2.2.1,.i p.2.2.2.1,.i p.2.2.2.2]
abbrev R80 (p:ZR) : List AV:=[.sl Y2 p.1,.sl Y4 p.2.1,.sl Y5 p.2.2.1,.i p.2.2.2.1,.i p.2.2.2.2]
def faD : Nat→Nat→Option Nat
 | 35,0=>some 0
 | 35,1=>some 1
 | 35,2=>some 2
 | 35,3=>some 3
 | 35,4=>some 4
 | 35,5=>some 5
 | 35,6=>some 6
 | 35,7=>some 7
 | 35,8=>some 8
 | 42,0=>some 0
 | 42,1=>some 1
 | 42,2=>some 2
 | 47,0=>some 0
 | 47,1=>some 1
 | 49,0=>some 0
 | 49,1=>some 1
 | 49,2=>some 2
 | 49,3=>some 3
 | 49,4=>some 4
 | 49,5=>some 5
 | 54,0=>some 0
 | 54,1=>some 1
 | 54,2=>some 2
 | 76,0=>some 0
 | 76,1=>some 1
 | 76,2=>some 2
 | 76,3=>some 3
 | 76,4=>some 4
 | 80,0=>some 0
 | 80,1=>some 1
 | 80,2=>some 2
 | 80,3=>some 3
 | 80,4=>some 4
 | 91,0=>some 0
 | 91,1=>some 1
 | 91,2=>some 2
 | 131,3=>some 3
 | 131,4=>some 4
 | 131,5=>some 5
 | _,_=>none
theorem faT {T f off:Nat}(h:faD T f=some off) : zCv Tryz.prog T f off:=by
 unfold faD at h
 split at h <;> first | (cases h; exact fun b o w=>by kernel_rfl) | cases h
def tsD : Nat→Option (Bool×Nat)
 | 3=>some (false,1)
 | 9=>some (false,1)
 | 22=>some (false,1)
 | 26=>some (false,1)
 | 33=>some (false,1)
 | 35=>some (true,9)
 | 42=>some (true,3)
 | 45=>some (false,1)
 | 47=>some (true,2)
 | 49=>some (true,6)
 | 52=>some (false,1)
 | 54=>some (true,3)
 | 60=>some (true,2)
 | 73=>some (false,1)
 | 74=>some (false,1)
 | 76=>some (true,5)
 | 78=>some (false,1)
 | 80=>some (true,5)
 | 85=>some (false,1)
 | 86=>some (true,3)
 | 89=>some (false,1)
 | 91=>some (true,3)
 | 133=>some (false,1)
 | _=>none
theorem tsT {T n:Nat}{b:Bool}(h:tsD T=some (b,n)) : TyS Tryz.prog T b n:=by
 unfold tsD at h
 split at h <;> first | (cases h; exact ⟨fun w=>by kernel_rfl,fun w=>by kernel_rfl⟩) | cases h
def szD : Nat→Option (Nat)
 | 3=>some 1
 | 9=>some 1
 | 22=>some 1
 | 33=>some 1
 | 35=>some 9
 | 42=>some 3
 | 45=>some 1
 | 47=>some 2
 | 49=>some 6
 | 52=>some 1
 | 54=>some 3
 | 60=>some 2
 | 73=>some 1
 | 74=>some 1
 | 76=>some 5
 | 78=>some 1
 | 80=>some 5
 | 85=>some 1
 | 86=>some 3
 | 89=>some 1
 | 91=>some 3
 | 133=>some 1
 | _=>none
theorem szT {T:Nat}{v:Nat}(h:szD T=some v) : Sz Tryz.prog T v:=by
 unfold szD at h
 split at h <;> first | (cases h; exact fun w=>by kernel_rfl) | cases h
def undD : Nat→Option (TypeDesc)
 | 9=>some .string
 | 22=>some (.slice 47)
 | 23=>some (.slice 35)
 | 26=>some (.pointer 76)
 | 33=>some (.slice 3)
 | 45=>some (.slice 49)
 | 52=>some (.slice 54)
 | 57=>some (.slice 60)
 | 60=>some (.array 2 3)
 | 73=>some (.map 3 54)
 | 74=>some (.map 3 42)
 | 78=>some (.slice 42)
 | 86=>some (.array 3 85)
 | 89=>some (.map 3 4)
 | 101=>some (.map 3 3)
 | 117=>some (.pointer 47)
 | 139=>some (.slice 9)
 | 143=>some (.array 3 3)
 | _=>none
theorem undT {T:Nat}{v:TypeDesc}(h:undD T=some v) : Und Tryz.prog T v:=by
 unfold undD at h
 split at h <;> first | (cases h; exact by unfold Und; kernel_rfl) | cases h
def zeroD : Nat→Option (Value)
 | 3=>some (.int .i64 0)
 | 33=>some (.slice none 0 0)
 | 35=>some (.agg #[.int .i64 0,.int .i64 0,.int .i64 0,.int .i64 0,.string ByteArray.empty,.string ByteArray.empty,.string ByteArray.empty,.string ByteArray.empty,.slice none 0 0])
 | 42=>some (.agg #[.int .i64 0,.string ByteArray.empty,.slice none 0 0])
 | 47=>some (.agg #[.string ByteArray.empty,.slice none 0 0])
 | 49=>some (.agg #[.string ByteArray.empty,.int .i64 0,.int .i64 0,.int .i64 0,.int .i64 0,.int .i64 0])
 | 54=>some (.agg #[.int .i64 0,.int .i64 0,.string ByteArray.empty])
 | 60=>some (.agg #[.int .i64 0,.int .i64 0])
 | 76=>some (.agg #[.slice none 0 0,.map none,.map none,.int .i64 0,.int .i64 0])
 | 80=>some (.agg #[.slice none 0 0,.slice none 0 0,.slice none 0 0,.int .i64 0,.int .i64 0])
 | 85=>some (.nilFunc)
 | 86=>some (.agg #[.nilFunc,.nilFunc,.nilFunc])
 | 89=>some (.map none)
 | 91=>some (.agg #[.map none,.map none,.map none])
 | 133=>some (.nilFunc)
 | 143=>some (.agg #[.int .i64 0,.int .i64 0,.int .i64 0])
 | _=>none
theorem zeroT {T:Nat}{v:Value}(h:zeroD T=some v) : Eng.Zero Tryz.prog T v:=by
 unfold zeroD at h
 split at h <;> first | (cases h; exact fun w=>by kernel_rfl) | cases h
theorem faX (T f:Nat){off:Nat}(h:faD T f=some off) : zCv Tryz.prog T f off:=faT h
theorem tsX (T:Nat){n:Nat}{b:Bool}(h:tsD T=some (b,n)) : TyS Tryz.prog T b n:=tsT h
theorem szX (T:Nat){v:Nat}(h:szD T=some v) : Sz Tryz.prog T v:=szT h
theorem undX (T:Nat){v:TypeDesc}(h:undD T=some v) : Und Tryz.prog T v:=undT h
theorem zeroX (T:Nat){v:Value}(h:zeroD T=some v) : Eng.Zero Tryz.prog T v:=zeroT h
end Go.Ab
namespace Go.Ab
open Go.RowKit Go.Shelf Go.Proofs Go.Eng
def wsE (l:AFr) (H:AH) (σ:List Nat) (d:Nat) (l':AFr) : List (Option AV):=l'.map fun p=>(l.look p.1).map (zBI H σ d)
theorem wS {l:AFr}{H:AH}{σ:List Nat}{d:Nat} : ∀ {l':AFr}(h:wsE l H σ d l'=l'.map (fun p=>some p.2):=by rfl),wkS l H σ d l':=by
 intro l'
 induction l' with
 | nil=>intro _; trivial
 | cons p r ih =>
  intro h
  simp only [wsE,List.map_cons,List.cons.injEq] at h
  exact ⟨⟨_,h.1,cv0⟩,ih h.2⟩
def woE (H:AH) (σ:List Nat) (d:Nat) (H':AH) : Nat→List Nat→List (AO×AO)
 | _,[]=>[]
 | j,i::r=>(H'.get j,coeO H σ d (H.get i))::woE H σ d H' (j+1) r
theorem wO {H:AH}{σ0:List Nat}{d:Nat}{H':AH} : ∀ {σ:List Nat}{j:Nat}(h:(woE H σ0 d H' j σ).map (·.1)=(woE H σ0 d H' j σ).map (·.2):=by rfl),wkO H σ0 d H' j σ:=by
 intro σ
 induction σ with
 | nil=>intro j _; trivial
 | cons a r ih =>
  intro j h
  simp only [woE,List.map_cons,List.cons.injEq] at h
  exact ⟨.inl h.1,ih h.2⟩
theorem cnd {A B C p q u v:Prop}(k1:p→u→B) (k2:q→v→C) (h:(p→u→B)→(q→v→C)→A:=by
 intro k1 k2
 exact zAO rfl (fun hc=>k1 hc (if_t hc hr)) (fun hc=>k2 hc (if_f hc hr))) : A:=h k1 k2
section
variable {P:Program} {N:Ev} {X:Cx} {Q:zBa} {st:AS}
variable {d:Nat} {T U T':TypeId} {pos:String} {aft:Array Edge} {g:Option (Nat×Bool)} {x y:Operand} {k ky:IntKind} {a b:Int}
theorem V {ops:Array Oper}{rest:List Oper}{op:Op}{v:AV}(h:AOpV P N X ⟨some d,op,T,pos,aft,none⟩ v st) (k:AWL P N X ops Q rest (st.put d v)) : AWL P N X ops Q (⟨some d,op,T,pos,aft,none⟩::rest) st:=awl_v h k
def AOpS (P:Program) (N:Ev) (X:Cx) (o:Oper) (st st':AS) : Prop:=∀ K : AS→Prop,K st'→AOp P N X o K st
theorem O {ops:Array Oper}{rest:List Oper}{d:Option Nat}{op:Op}{st':AS}(h:AOpS P N X ⟨d,op,T,pos,aft,none⟩ st st') (k:AWL P N X ops Q rest st') : AWL P N X ops Q (⟨d,op,T,pos,aft,none⟩::rest) st:=zAK (h _ k)
abbrev sq:=@awc_seq
abbrev rg:=@awc_region
abbrev nl:=@zAJ
abbrev sk:=@zAv
abbrev bl:=@awc_block
abbrev an:=@zAZ
abbrev bn:=@zAS
abbrev bh:=@zAl
abbrev ar:=@zAC
abbrev br:=@zAE
abbrev cr:=@zAw
theorem vm {v:AV}(hx:aev st.l x=some v:=by exact rfl) (hN:Nat.blt d N.n=true:=by exact rfl) : AOpV P N X ⟨some d,.move x,T,pos,aft,g⟩ v st:=zAg hx hN
theorem wm {pg:Prop}{v:AV}(hx:aev st.l x=some v:=by exact rfl) (hN:Nat.blt d N.n=true:=by exact rfl) : pg→AOpV P N X ⟨some d,.move x,T,pos,aft,g⟩ v st:=fun _=>zAg hx hN
theorem va {v:AV}(hx:aev st.l x=some v:=by exact rfl) (hN:Nat.blt d N.n=true:=by exact rfl) : AOpV P N X ⟨some d,.assign x,T,pos,aft,g⟩ v st:=av_assign hx hN
theorem wa {pg:Prop}{v:AV}(hx:aev st.l x=some v:=by exact rfl) (hN:Nat.blt d N.n=true:=by exact rfl) : pg→AOpV P N X ⟨some d,.assign x,T,pos,aft,g⟩ v st:=fun _=>av_assign hx hN
theorem vls (hx:aev st.l x=some (.int k a):=by exact rfl) (hy:aev st.l y=some (.int k b):=by exact rfl) (hN:Nat.blt d N.n=true:=by exact rfl) : AOpV P N X ⟨some d,.binOp .lss T x y T',U,pos,aft,g⟩ (.bool (decide (a < b))) st:=av_lss hx hy hN
theorem wls {pg:Prop}(hx:aev st.l x=some (.int k a):=by exact rfl) (hy:aev st.l y=some (.int k b):=by exact rfl) (hN:Nat.blt d N.n=true:=by exact rfl) : pg→AOpV P N X ⟨some d,.binOp .lss T x y T',U,pos,aft,g⟩ (.bool (decide (a < b))) st:=fun _=>av_lss hx hy hN
theorem vad (hx:aev st.l x=some (.int k a):=by exact rfl) (hy:aev st.l y=some (.int k b):=by exact rfl) (hN:Nat.blt d N.n=true:=by exact rfl) : AOpV P N X ⟨some d,.binOp .add T x y T',U,pos,aft,g⟩ (.int k (k.wrap (a+b))) st:=av_add hx hy hN
theorem wad {pg:Prop}(hx:aev st.l x=some (.int k a):=by exact rfl) (hy:aev st.l y=some (.int k b):=by exact rfl) (hN:Nat.blt d N.n=true:=by exact rfl) : pg→AOpV P N X ⟨some d,.binOp .add T x y T',U,pos,aft,g⟩ (.int k (k.wrap (a+b))) st:=fun _=>av_add hx hy hN
theorem veq (hx:aev st.l x=some (.int k a):=by exact rfl) (hy:aev st.l y=some (.int k b):=by exact rfl) (hN:Nat.blt d N.n=true:=by exact rfl) : AOpV P N X ⟨some d,.binOp .eql T x y T',U,pos,aft,g⟩ (.bool (decide (a=b))) st:=av_eql hx hy hN
theorem weq {pg:Prop}(hx:aev st.l x=some (.int k a):=by exact rfl) (hy:aev st.l y=some (.int k b):=by exact rfl) (hN:Nat.blt d N.n=true:=by exact rfl) : pg→AOpV P N X ⟨some d,.binOp .eql T x y T',U,pos,aft,g⟩ (.bool (decide (a=b))) st:=fun _=>av_eql hx hy hN
theorem vne (hx:aev st.l x=some (.int k a):=by exact rfl) (hy:aev st.l y=some (.int k b):=by exact rfl) (hN:Nat.blt d N.n=true:=by exact rfl) : AOpV P N X ⟨some d,.binOp .neq T x y T',U,pos,aft,g⟩ (.bool (!decide (a=b))) st:=av_neq hx hy hN
theorem wne {pg:Prop}(hx:aev st.l x=some (.int k a):=by exact rfl) (hy:aev st.l y=some (.int k b):=by exact rfl) (hN:Nat.blt d N.n=true:=by exact rfl) : pg→AOpV P N X ⟨some d,.binOp .neq T x y T',U,pos,aft,g⟩ (.bool (!decide (a=b))) st:=fun _=>av_neq hx hy hN
theorem vno {c:Bool}(hx:aev st.l x=some (.bool c):=by exact rfl) (hN:Nat.blt d N.n=true:=by exact rfl) : AOpV P N X ⟨some d,.unOp .not T x,U,pos,aft,g⟩ (.bool (!c)) st:=av_not hx hN
theorem wno {pg:Prop}{c:Bool}(hx:aev st.l x=some (.bool c):=by exact rfl) (hN:Nat.blt d N.n=true:=by exact rfl) : pg→AOpV P N X ⟨some d,.unOp .not T x,U,pos,aft,g⟩ (.bool (!c)) st:=fun _=>av_not hx hN
theorem vgt (hx:aev st.l x=some (.int k a):=by exact rfl) (hy:aev st.l y=some (.int k b):=by exact rfl) (hN:Nat.blt d N.n=true:=by exact rfl) : AOpV P N X ⟨some d,.binOp .gtr T x y T',U,pos,aft,g⟩ (.bool (decide (b < a))) st:=av_gtr hx hy hN
theorem wgt {pg:Prop}(hx:aev st.l x=some (.int k a):=by exact rfl) (hy:aev st.l y=some (.int k b):=by exact rfl) (hN:Nat.blt d N.n=true:=by exact rfl) : pg→AOpV P N X ⟨some d,.binOp .gtr T x y T',U,pos,aft,g⟩ (.bool (decide (b < a))) st:=fun _=>av_gtr hx hy hN
theorem vge (hx:aev st.l x=some (.int k a):=by exact rfl) (hy:aev st.l y=some (.int k b):=by exact rfl) (hN:Nat.blt d N.n=true:=by exact rfl) : AOpV P N X ⟨some d,.binOp .geq T x y T',U,pos,aft,g⟩ (.bool (decide (b≤a))) st:=av_geq hx hy hN
theorem wge {pg:Prop}(hx:aev st.l x=some (.int k a):=by exact rfl) (hy:aev st.l y=some (.int k b):=by exact rfl) (hN:Nat.blt d N.n=true:=by exact rfl) : pg→AOpV P N X ⟨some d,.binOp .geq T x y T',U,pos,aft,g⟩ (.bool (decide (b≤a))) st:=fun _=>av_geq hx hy hN
theorem vle (hx:aev st.l x=some (.int k a):=by exact rfl) (hy:aev st.l y=some (.int k b):=by exact rfl) (hN:Nat.blt d N.n=true:=by exact rfl) : AOpV P N X ⟨some d,.binOp .leq T x y T',U,pos,aft,g⟩ (.bool (decide (a≤b))) st:=av_leq hx hy hN
theorem wle {pg:Prop}(hx:aev st.l x=some (.int k a):=by exact rfl) (hy:aev st.l y=some (.int k b):=by exact rfl) (hN:Nat.blt d N.n=true:=by exact rfl) : pg→AOpV P N X ⟨some d,.binOp .leq T x y T',U,pos,aft,g⟩ (.bool (decide (a≤b))) st:=fun _=>av_leq hx hy hN
theorem vsu (hx:aev st.l x=some (.int k a):=by exact rfl) (hy:aev st.l y=some (.int k b):=by exact rfl) (hN:Nat.blt d N.n=true:=by exact rfl) : AOpV P N X ⟨some d,.binOp .sub T x y T',U,pos,aft,g⟩ (.int k (k.wrap (a - b))) st:=av_sub hx hy hN
theorem wsu {pg:Prop}(hx:aev st.l x=some (.int k a):=by exact rfl) (hy:aev st.l y=some (.int k b):=by exact rfl) (hN:Nat.blt d N.n=true:=by exact rfl) : pg→AOpV P N X ⟨some d,.binOp .sub T x y T',U,pos,aft,g⟩ (.int k (k.wrap (a - b))) st:=fun _=>av_sub hx hy hN
theorem vnp {i o:Nat}(hx:aev st.l x=some (.ptr i o):=by exact rfl) (hN:Nat.blt d N.n=true:=by exact rfl) : AOpV P N X ⟨some d,.nilCheck x,U,pos,aft,g⟩ (.ptr i o) st:=zAm hx hN
theorem wnp {pg:Prop}{i o:Nat}(hx:aev st.l x=some (.ptr i o):=by exact rfl) (hN:Nat.blt d N.n=true:=by exact rfl) : pg→AOpV P N X ⟨some d,.nilCheck x,U,pos,aft,g⟩ (.ptr i o) st:=fun _=>zAm hx hN
theorem vnr {cs:List AV}(hx:aev st.l x=some (.rp cs):=by exact rfl) (hN:Nat.blt d N.n=true:=by exact rfl) : AOpV P N X ⟨some d,.nilCheck x,U,pos,aft,g⟩ (.rp cs) st:=av_nilCheck_rp hx hN
theorem wnr {pg:Prop}{cs:List AV}(hx:aev st.l x=some (.rp cs):=by exact rfl) (hN:Nat.blt d N.n=true:=by exact rfl) : pg→AOpV P N X ⟨some d,.nilCheck x,U,pos,aft,g⟩ (.rp cs) st:=fun _=>av_nilCheck_rp hx hN
theorem vx {i:Nat}{vs:List AV}{v:AV}(hx:aev st.l x=some (.tup vs):=by exact rfl) (hv:vs[i]?=some v:=by exact rfl) (hN:Nat.blt d N.n=true:=by exact rfl) : AOpV P N X ⟨some d,.extract x i,U,pos,aft,g⟩ v st:=av_extract hx hv hN
theorem wx {pg:Prop}{i:Nat}{vs:List AV}{v:AV}(hx:aev st.l x=some (.tup vs):=by exact rfl) (hv:vs[i]?=some v:=by exact rfl) (hN:Nat.blt d N.n=true:=by exact rfl) : pg→AOpV P N X ⟨some d,.extract x i,U,pos,aft,g⟩ v st:=fun _=>av_extract hx hv hN
theorem ves {s t:Str}(hx:aev st.l x=some (.str s):=by exact rfl) (hy:aev st.l y=some (.str t):=by exact rfl) (hN:Nat.blt d N.n=true:=by exact rfl) : AOpV P N X ⟨some d,.binOp .eql T x y T',U,pos,aft,g⟩ (.bool (decide (s=t))) st:=av_eqls hx hy hN
theorem wes {pg:Prop}{s t:Str}(hx:aev st.l x=some (.str s):=by exact rfl) (hy:aev st.l y=some (.str t):=by exact rfl) (hN:Nat.blt d N.n=true:=by exact rfl) : pg→AOpV P N X ⟨some d,.binOp .eql T x y T',U,pos,aft,g⟩ (.bool (decide (s=t))) st:=fun _=>av_eqls hx hy hN
theorem vns {s t:Str}(hx:aev st.l x=some (.str s):=by exact rfl) (hy:aev st.l y=some (.str t):=by exact rfl) (hN:Nat.blt d N.n=true:=by exact rfl) : AOpV P N X ⟨some d,.binOp .neq T x y T',U,pos,aft,g⟩ (.bool (!decide (s=t))) st:=av_neqs hx hy hN
theorem wns {pg:Prop}{s t:Str}(hx:aev st.l x=some (.str s):=by exact rfl) (hy:aev st.l y=some (.str t):=by exact rfl) (hN:Nat.blt d N.n=true:=by exact rfl) : pg→AOpV P N X ⟨some d,.binOp .neq T x y T',U,pos,aft,g⟩ (.bool (!decide (s=t))) st:=fun _=>av_neqs hx hy hN
theorem vfp {f off i o o':Nat}(hf:zCv P T f off:=by exact faT rfl) (hx:aev st.l x=some (.ptr i o):=by exact rfl) (ho:o+off=o':=by exact rfl) (hN:Nat.blt d N.n=true:=by exact rfl) : AOpV P N X ⟨some d,.fieldAddr T x f,U,pos,aft,g⟩ (.ptr i o') st:=zAc hf hx ho hN
theorem wfp {pg:Prop}{f off i o o':Nat}(hf:zCv P T f off:=by exact faT rfl) (hx:aev st.l x=some (.ptr i o):=by exact rfl) (ho:o+off=o':=by exact rfl) (hN:Nat.blt d N.n=true:=by exact rfl) : pg→AOpV P N X ⟨some d,.fieldAddr T x f,U,pos,aft,g⟩ (.ptr i o') st:=fun _=>zAc hf hx ho hN
theorem vfr {f off:Nat}{cs ds:List AV}(hf:zCv P T f off:=by exact faT rfl) (hx:aev st.l x=some (.rp cs):=by exact rfl) (hd:cs.drop off=ds:=by exact rfl) (hN:Nat.blt d N.n=true:=by exact rfl) : AOpV P N X ⟨some d,.fieldAddr T x f,U,pos,aft,g⟩ (.rp ds) st:=av_fa_rp hf hx hd hN
theorem wfr {pg:Prop}{f off:Nat}{cs ds:List AV}(hf:zCv P T f off:=by exact faT rfl) (hx:aev st.l x=some (.rp cs):=by exact rfl) (hd:cs.drop off=ds:=by exact rfl) (hN:Nat.blt d N.n=true:=by exact rfl) : pg→AOpV P N X ⟨some d,.fieldAddr T x f,U,pos,aft,g⟩ (.rp ds) st:=fun _=>av_fa_rp hf hx hd hN
theorem vlp {i o:Nat}{cs:List AV}{v:AV}{r:List AV}(hT:TyS P T false 1:=by exact tsT rfl) (hx:aev st.l x=some (.ptr i o):=by exact rfl) (hH:st.H.get i=.var T' cs:=by exact rfl) (hd:cs.drop o=v::r:=by exact rfl) (hN:Nat.blt d N.n=true:=by exact rfl) : AOpV P N X ⟨some d,.load T x,U,pos,aft,g⟩ v st:=zAU hT hx hH hd hN
theorem wlp {pg:Prop}{i o:Nat}{cs:List AV}{v:AV}{r:List AV}(hT:TyS P T false 1:=by exact tsT rfl) (hx:aev st.l x=some (.ptr i o):=by exact rfl) (hH:st.H.get i=.var T' cs:=by exact rfl) (hd:cs.drop o=v::r:=by exact rfl) (hN:Nat.blt d N.n=true:=by exact rfl) : pg→AOpV P N X ⟨some d,.load T x,U,pos,aft,g⟩ v st:=fun _=>zAU hT hx hH hd hN
theorem vlr {v:AV}{r:List AV}(hT:TyS P T false 1:=by exact tsT rfl) (hx:aev st.l x=some (.rp (v::r)):=by exact rfl) (hN:Nat.blt d N.n=true:=by exact rfl) : AOpV P N X ⟨some d,.load T x,U,pos,aft,g⟩ v st:=av_load_rp hT hx hN
theorem wlr {pg:Prop}{v:AV}{r:List AV}(hT:TyS P T false 1:=by exact tsT rfl) (hx:aev st.l x=some (.rp (v::r)):=by exact rfl) (hN:Nat.blt d N.n=true:=by exact rfl) : pg→AOpV P N X ⟨some d,.load T x,U,pos,aft,g⟩ v st:=fun _=>av_load_rp hT hx hN
theorem vlR {n:Nat}{cs ds:List AV}(hT:TyS P T true n:=by exact tsT rfl) (hx:aev st.l x=some (.rp cs):=by exact rfl) (hd:cs.take n=ds:=by exact rfl) (hl:Nat.beq ds.length n=true:=by exact rfl) (hN:Nat.blt d N.n=true:=by exact rfl) : AOpV P N X ⟨some d,.load T x,U,pos,aft,g⟩ (.agg ds) st:=av_load_rpN hT hx hd hl hN
theorem wlR {pg:Prop}{n:Nat}{cs ds:List AV}(hT:TyS P T true n:=by exact tsT rfl) (hx:aev st.l x=some (.rp cs):=by exact rfl) (hd:cs.take n=ds:=by exact rfl) (hl:Nat.beq ds.length n=true:=by exact rfl) (hN:Nat.blt d N.n=true:=by exact rfl) : pg→AOpV P N X ⟨some d,.load T x,U,pos,aft,g⟩ (.agg ds) st:=fun _=>av_load_rpN hT hx hd hl hN
theorem vlP {n i o:Nat}{cs ds:List AV}(hT:TyS P T true n:=by exact tsT rfl) (hx:aev st.l x=some (.ptr i o):=by exact rfl) (hH:st.H.get i=.var T' cs:=by exact rfl) (hd:(cs.drop o).take n=ds:=by exact rfl) (hl:Nat.beq ds.length n=true:=by exact rfl) (hN:Nat.blt d N.n=true:=by exact rfl) : AOpV P N X ⟨some d,.load T x,U,pos,aft,g⟩ (.agg ds) st:=av_load_ptrN hT hx hH hd hl hN
theorem wlP {pg:Prop}{n i o:Nat}{cs ds:List AV}(hT:TyS P T true n:=by exact tsT rfl) (hx:aev st.l x=some (.ptr i o):=by exact rfl) (hH:st.H.get i=.var T' cs:=by exact rfl) (hd:(cs.drop o).take n=ds:=by exact rfl) (hl:Nat.beq ds.length n=true:=by exact rfl) (hN:Nat.blt d N.n=true:=by exact rfl) : pg→AOpV P N X ⟨some d,.load T x,U,pos,aft,g⟩ (.agg ds) st:=fun _=>av_load_ptrN hT hx hH hd hl hN
theorem vnt {s:Str}{ts:Array TypeId}{cl:Array Operand}(hc:cl=#[x]:=by exact rfl) (ht:ts=#[T]:=by exact rfl) (hU:Und P T .string:=by exact undT rfl) (hx:aev st.l x=some (.str s):=by exact rfl) (hN:Nat.blt d N.n=true:=by exact rfl) : AOpV P N X ⟨some d,.call ⟨.builtin .len,cl,ts⟩,U,pos,aft,g⟩ (.int .i64 (s.length : Int)) st:=av_len_str hc ht hU hx hN
theorem wnt {pg:Prop}{s:Str}{ts:Array TypeId}{cl:Array Operand}(hc:cl=#[x]:=by exact rfl) (ht:ts=#[T]:=by exact rfl) (hU:Und P T .string:=by exact undT rfl) (hx:aev st.l x=some (.str s):=by exact rfl) (hN:Nat.blt d N.n=true:=by exact rfl) : pg→AOpV P N X ⟨some d,.call ⟨.builtin .len,cl,ts⟩,U,pos,aft,g⟩ (.int .i64 (s.length : Int)) st:=fun _=>av_len_str hc ht hU hx hN
theorem vnl {t:Ty}{xs:List t.den}{e:Nat}{ts:Array TypeId}{cl:Array Operand}(hc:cl=#[x]:=by exact rfl) (ht:ts=#[T]:=by exact rfl) (hU:Und P T (.slice e):=by exact undT rfl) (hx:aev st.l x=some (.sl t xs):=by exact rfl) (hN:Nat.blt d N.n=true:=by exact rfl) : AOpV P N X ⟨some d,.call ⟨.builtin .len,cl,ts⟩,U,pos,aft,g⟩ (.int .i64 (xs.length : Int)) st:=zA0 hc ht hU hx hN
theorem wnl {pg:Prop}{t:Ty}{xs:List t.den}{e:Nat}{ts:Array TypeId}{cl:Array Operand}(hc:cl=#[x]:=by exact rfl) (ht:ts=#[T]:=by exact rfl) (hU:Und P T (.slice e):=by exact undT rfl) (hx:aev st.l x=some (.sl t xs):=by exact rfl) (hN:Nat.blt d N.n=true:=by exact rfl) : pg→AOpV P N X ⟨some d,.call ⟨.builtin .len,cl,ts⟩,U,pos,aft,g⟩ (.int .i64 (xs.length : Int)) st:=fun _=>zA0 hc ht hU hx hN
theorem vnL {i:Nat}{t:Ty}{xs:List t.den}{e E:Nat}{ts:Array TypeId}{cl:Array Operand}(hc:cl=#[x]:=by exact rfl) (ht:ts=#[T]:=by exact rfl) (hU:Und P T (.slice e):=by exact undT rfl) (hx:aev st.l x=some (.osl i):=by exact rfl) (hH:st.H.get i=.sl E t xs:=by exact rfl) (hN:Nat.blt d N.n=true:=by exact rfl) : AOpV P N X ⟨some d,.call ⟨.builtin .len,cl,ts⟩,U,pos,aft,g⟩ (.int .i64 (xs.length : Int)) st:=zC7 hc ht hU hx hH hN
theorem wnL {pg:Prop}{i:Nat}{t:Ty}{xs:List t.den}{e E:Nat}{ts:Array TypeId}{cl:Array Operand}(hc:cl=#[x]:=by exact rfl) (ht:ts=#[T]:=by exact rfl) (hU:Und P T (.slice e):=by exact undT rfl) (hx:aev st.l x=some (.osl i):=by exact rfl) (hH:st.H.get i=.sl E t xs:=by exact rfl) (hN:Nat.blt d N.n=true:=by exact rfl) : pg→AOpV P N X ⟨some d,.call ⟨.builtin .len,cl,ts⟩,U,pos,aft,g⟩ (.int .i64 (xs.length : Int)) st:=fun _=>zC7 hc ht hU hx hH hN
theorem os {i o n:Nat}{cs ds cs':List AV}{av:AV}(hT:Sz P T n:=by exact szT rfl) (hx:aev st.l x=some (.ptr i o):=by exact rfl) (hy:aev st.l y=some av:=by exact rfl) (hH:st.H.get i=.var T' cs:=by exact rfl) (hd:zBd av=some ds:=by exact rfl) (hn:Nat.beq ds.length n=true:=by exact rfl) (hle:Nat.ble (o+n) cs.length=true:=by exact rfl) (hcs:over cs o ds=cs':=by exact rfl) : AOpS P N X ⟨none,.store T x y,U,pos,aft,g⟩ st (st.upd i (.var T' cs')):=fun K kk=>aop_store hT hx hy hH hd hn hle hcs kk
theorem oa {v:Value}{cs:List AV}(hZ:Zero P T v:=by exact zeroT rfl) (hcs:zBd (ofV v)=some cs:=by exact rfl) (hN:Nat.blt d N.n=true:=by exact rfl) : AOpS P N X ⟨some d,.alloc T,U,pos,aft,g⟩ st (st.new d (.ptr st.n 0) (.var T cs)):=fun K kk=>aop_alloc hZ hcs kk hN
theorem ob {av:AV}{cs:List AV}(hx:aev st.l x=some av:=by exact rfl) (hcs:zBd av=some cs:=by exact rfl) (hN:Nat.blt d N.n=true:=by exact rfl) : AOpS P N X ⟨some d,.box T x,U,pos,aft,g⟩ st (st.new d (.ptr st.n 0) (.var T cs)):=fun K kk=>aop_box hx hcs kk hN
end
section
variable {P:Program} {N:Ev} {X:Cx} {Q:zBa} {st:AS}
theorem zBr {ops:List Oper}{Ts:List TT}{lA:AFr}{H:AH}{n:Nat}{d U:Nat}{pos:String}{aft:Array Edge}{g:Option (Nat×Bool)}{c x y:Operand}{T:TT}{js js':List Nat}{jq:Nat}{p q:Bool}(hg:guardOk ops Ts ⟨some d,.pick c x y,U,pos,aft,g⟩ T js:=by exact rfl) (hjs:js=jq::js':=by exact rfl) (hnd:zCn (js.map (zBm ops))=true:=by exact rfl) (hT2:T.2=.bool (p||q):=by exact rfl) (hall:T.1=true→∀ j∈js',(zBL Ts j).1=true:=by exact fun hg=>zAD ⟨rfl,trivial⟩) (hc:aev (zBR ops Ts js' ((zBm ops jq,.any)::lA)) c=some (.bool p):=by exact rfl) (hq:zBL Ts jq=(T.1&&!p,.bool q):=by exact rfl) (hx:y=.tmp (zBm ops jq):=by exact rfl) (hy:x=.const (.bool true):=by exact rfl) (hN:Nat.blt d N.n=true:=by exact rfl) : AOb P N X ops Ts lA H n ⟨some d,.pick c x y,U,pos,aft,g⟩ T js:=zBC (b:=false) hg hjs hnd hall hT2 hc hq hx hy hN
theorem zBe {ops:List Oper}{Ts:List TT}{lA:AFr}{H:AH}{n:Nat}{d U:Nat}{pos:String}{aft:Array Edge}{g:Option (Nat×Bool)}{c x y:Operand}{T:TT}{js js':List Nat}{jq:Nat}{p q:Bool}(hg:guardOk ops Ts ⟨some d,.pick c x y,U,pos,aft,g⟩ T js:=by exact rfl) (hjs:js=jq::js':=by exact rfl) (hnd:zCn (js.map (zBm ops))=true:=by exact rfl) (hT2:T.2=.bool (p&&q):=by exact rfl) (hall:T.1=true→∀ j∈js',(zBL Ts j).1=true:=by exact fun hg=>zAD ⟨rfl,trivial⟩) (hc:aev (zBR ops Ts js' ((zBm ops jq,.any)::lA)) c=some (.bool p):=by exact rfl) (hq:zBL Ts jq=(T.1&&p,.bool q):=by exact rfl) (hx:x=.tmp (zBm ops jq):=by exact rfl) (hy:y=.const (.bool false):=by exact rfl) (hN:Nat.blt d N.n=true:=by exact rfl) : AOb P N X ops Ts lA H n ⟨some d,.pick c x y,U,pos,aft,g⟩ T js:=zBC (b:=true) hg hjs hnd hall hT2 hc hq hx hy hN
theorem pkA {H:AH}{a b:OT}{x:(OT.pair a b).den}{cs:List AV}{js:List Nat}(h1:Pk H a x.1 (cs.take a.cells) []) (h2:Pk H b x.2 (cs.drop a.cells) js) : Pk H (.pair a b) x cs js:=⟨_,_,[],js,(List.take_append_drop _ cs).symm,rfl,h1,h2⟩
theorem pkB {H:AH}{a b:OT}{x:(OT.pair a b).den}{cs:List AV}{j:Nat}{js:List Nat}(h1:Pk H a x.1 (cs.take a.cells) [j]) (h2:Pk H b x.2 (cs.drop a.cells) js) : Pk H (.pair a b) x cs (j::js):=⟨_,_,[j],js,(List.take_append_drop _ cs).symm,rfl,h1,h2⟩
theorem pk {i:Nat}{T:TypeId}{e:OT}{cs:List AV}{js:List Nat}(x:e.den) (hH:st.H.get i=.var T cs:=by exact rfl) (hP:Pk st.H e x cs js:=by repeat' first | exact ⟨rfl,rfl,rfl⟩ | exact ⟨_,rfl,rfl,rfl⟩ | exact .inl ⟨_,rfl,rfl,rfl⟩ | exact .inr ⟨rfl,rfl,rfl⟩ | refine pkA (by first | exact ⟨rfl,rfl,rfl⟩ | exact .inr ⟨rfl,rfl,rfl⟩) ?_ | refine pkB (by first | exact ⟨_,rfl,rfl,rfl⟩ | exact .inl ⟨_,rfl,rfl,rfl⟩) ?_) (hj:(zCn (i::js)&&(i::js).all fun j=>Nat.blt j st.n)=true:=by exact rfl) :
  Wk X st ⟨st.l,(i,.tr (.pt T e) (some x))::killH js st.H,st.n⟩:=zAT x hH hP hj
theorem oB {ops:List Oper}{Ts:List TT}{lA:AFr}{H:AH}{n:Nat}{o:Oper}{T:TT}{js:List Nat}(h:T.1=true→AOpV P N X o T.2 ⟨zBR ops Ts js lA,H,n⟩) (hg:guardOk ops Ts o T js:=by first | exact rfl | exact ⟨rfl,rfl,rfl,_,rfl,rfl⟩) (hall:T.1=true→∀ j∈js,(zBL Ts j).1=true:=by exact fun hg=>zAD (by repeat (first | exact trivial | refine ⟨by first | exact rfl | exact hg | exact zBO hg,?_⟩))) : AOb P N X ops Ts lA H n o T js:=zAr hg hall h
end
end Go.Ab
/-
 DERIVED: THE SHELF's CONTRACTS AT THIS DUMP,IN PLAIN WORDS (tools/lay-plain.mjs out of 'TryzShelf.lean',which tools/lay-shelf.mjs wrote): THE SAME DECLARATIONS UNDER THE SAME NAMES: 'import','namespace','open','def','theorem' AND NOTHING ELSE: no command of the shelf's: FOR A HAND-IN. Each laying: the table of numbers ('.._ren') and one theorem,a field a fact of the dump's own or the kernel's comparison; each contract: ONE APPLICATION.
-/
namespace Go.Proofs
open Go.Shelf
def Tryz.laysSort_ren : Go.Shelf.Ren:=⟨fun | 189=>88 | 125=>116 | 257=>115 | 128=>132 | 129=>133 | 294=>123 | 295=>124 | 296=>125 | 297=>126 | 298=>127 | 299=>128 | 216=>129 | 300=>130 | 301=>131 | 328=>134 | 329=>135 | 330=>136 | 331=>137 | 332=>138 | 215=>139 | 343=>140 | n=>n,fun | 28=>33 | 3=>3 | 46=>149 | 0=>0 | 51=>163 | 53=>165 | 4=>4 | 183=>156 | 182=>155 | 131=>145 | 5=>5 | 9=>9 | 218=>166 | 222=>170 | 228=>172 | 229=>173 | n=>n,fun | n=>n⟩
theorem Tryz.laysSort : Go.Proofs.Lays.n189 Tryz.prog Tryz.laysSort_ren:={
 mixed:=by kernel_rfl
 f125:=Tryz.func116.trans (congrArg some (by kernel_rfl))
 f128:=Tryz.func132.trans (congrArg some (by kernel_rfl))
 f129:=Tryz.func133.trans (congrArg some (by kernel_rfl))
 f189:=Tryz.func88.trans (congrArg some (by kernel_rfl))
 f215:=Tryz.func139.trans (congrArg some (by kernel_rfl))
 f216:=Tryz.func129.trans (congrArg some (by kernel_rfl))
 f257:=Tryz.func115.trans (congrArg some (by kernel_rfl))
 f294:=Tryz.func123.trans (congrArg some (by kernel_rfl))
 f295:=Tryz.func124.trans (congrArg some (by kernel_rfl))
 f296:=Tryz.func125.trans (congrArg some (by kernel_rfl))
 f297:=Tryz.func126.trans (congrArg some (by kernel_rfl))
 f298:=Tryz.func127.trans (congrArg some (by kernel_rfl))
 f299:=Tryz.func128.trans (congrArg some (by kernel_rfl))
 f300:=Tryz.func130.trans (congrArg some (by kernel_rfl))
 f301:=Tryz.func131.trans (congrArg some (by kernel_rfl))
 f328:=Tryz.func134.trans (congrArg some (by kernel_rfl))
 f329:=Tryz.func135.trans (congrArg some (by kernel_rfl))
 f330:=Tryz.func136.trans (congrArg some (by kernel_rfl))
 f331:=Tryz.func137.trans (congrArg some (by kernel_rfl))
 f332:=Tryz.func138.trans (congrArg some (by kernel_rfl))
 f343:=Tryz.func140.trans (congrArg some (by kernel_rfl))
 t0:=Tryz.underlying0
 a0:=Tryz.isAgg0
 z0:=Tryz.sizeOf0
 v0:=Tryz.zeroValue0
 t3:=Tryz.underlying3
 a3:=Tryz.isAgg3
 z3:=Tryz.sizeOf3
 v3:=Tryz.zeroValue3
 t4:=Tryz.underlying4
 a4:=Tryz.isAgg4
 z4:=Tryz.sizeOf4
 v4:=Tryz.zeroValue4
 t5:=Tryz.underlying5
 a5:=Tryz.isAgg5
 z5:=Tryz.sizeOf5
 v5:=Tryz.zeroValue5
 t9:=Tryz.underlying9
 a9:=Tryz.isAgg9
 z9:=Tryz.sizeOf9
 v9:=Tryz.zeroValue9
 t28:=Tryz.underlying33
 a28:=Tryz.isAgg33
 z28:=Tryz.sizeOf33
 v28:=Tryz.zeroValue33
 t46:=Tryz.underlying149
 a46:=Tryz.isAgg149
 z46:=Tryz.sizeOf149
 v46:=Tryz.zeroValue149
 t51:=Tryz.underlying163
 a51:=Tryz.isAgg163
 z51:=Tryz.sizeOf163
 v51:=Tryz.zeroValue163
 t53:=Tryz.underlying165
 a53:=Tryz.isAgg165
 z53:=Tryz.sizeOf165
 v53:=Tryz.zeroValue165
 t131:=Tryz.underlying145
 a131:=Tryz.isAgg145
 z131:=Tryz.sizeOf145
 v131:=Tryz.zeroValue145
 t182:=Tryz.underlying155
 a182:=Tryz.isAgg155
 z182:=Tryz.sizeOf155
 v182:=Tryz.zeroValue155
 t183:=Tryz.underlying156
 a183:=Tryz.isAgg156
 z183:=Tryz.sizeOf156
 v183:=Tryz.zeroValue156
 t218:=Tryz.underlying166
 a218:=Tryz.isAgg166
 z218:=Tryz.sizeOf166
 v218:=Tryz.zeroValue166
 t222:=Tryz.underlying170
 a222:=Tryz.isAgg170
 z222:=Tryz.sizeOf170
 v222:=Tryz.zeroValue170
 t228:=Tryz.underlying172
 a228:=Tryz.isAgg172
 z228:=Tryz.sizeOf172
 v228:=Tryz.zeroValue172
 t229:=Tryz.underlying173
 a229:=Tryz.isAgg173
 z229:=Tryz.sizeOf173
 v229:=Tryz.zeroValue173 }
def Tryz.laysCompact_ren : Go.Shelf.Ren:=⟨fun | 20=>89 | n=>n,fun | 22=>33 | 3=>3 | 4=>4 | 0=>0 | n=>n,fun | n=>n⟩
theorem Tryz.laysCompact : Go.Proofs.Lays2.n20 Tryz.prog Tryz.laysCompact_ren:={
 mixed:=by kernel_rfl
 f20:=Tryz.func89.trans (congrArg some (by kernel_rfl))
 t0:=Tryz.underlying0
 a0:=Tryz.isAgg0
 z0:=Tryz.sizeOf0
 v0:=Tryz.zeroValue0
 t3:=Tryz.underlying3
 a3:=Tryz.isAgg3
 z3:=Tryz.sizeOf3
 v3:=Tryz.zeroValue3
 t4:=Tryz.underlying4
 a4:=Tryz.isAgg4
 z4:=Tryz.sizeOf4
 v4:=Tryz.zeroValue4
 t22:=Tryz.underlying33
 a22:=Tryz.isAgg33
 z22:=Tryz.sizeOf33
 v22:=Tryz.zeroValue33
 i3:=by kernel_rfl }
def Tryz.keys54_ren : Go.Shelf.Ren:=⟨fun | 7=>54 | 10=>101 | n=>n,fun | 23=>74 | 26=>3 | 3=>42 | 28=>96 | 0=>0 | 27=>95 | 33=>111 | 4=>4 | n=>n,fun | n=>n⟩
theorem Tryz.keys54 : Go.Proofs.SlLaysZI.n7 Tryz.prog Tryz.keys54_ren:={
 mixed:=by kernel_rfl
 f7:=⟨Tryz.f54.name,by decide,Tryz.func54.trans (congrArg some (by kernel_rfl))⟩
 f10:=⟨Tryz.f101.name,by decide,Tryz.func101.trans (congrArg some (by kernel_rfl))⟩
 t0:=Tryz.underlying0
 a0:=Tryz.isAgg0
 z0:=Tryz.sizeOf0
 v0:=Tryz.zeroValue0
 t4:=Tryz.underlying4
 a4:=Tryz.isAgg4
 z4:=Tryz.sizeOf4
 v4:=Tryz.zeroValue4
 t23:=Tryz.underlying74
 a23:=Tryz.isAgg74
 z23:=Tryz.sizeOf74
 v23:=Tryz.zeroValue74
 t26:=Tryz.underlying3
 a26:=Tryz.isAgg3
 z26:=Tryz.sizeOf3
 v26:=Tryz.zeroValue3
 t27:=Tryz.underlying95
 a27:=Tryz.isAgg95
 z27:=Tryz.sizeOf95
 v27:=Tryz.zeroValue95
 t28:=Tryz.underlying96
 a28:=Tryz.isAgg96
 z28:=Tryz.sizeOf96
 v28:=Tryz.zeroValue96
 t33:=Tryz.underlying111
 a33:=Tryz.isAgg111
 z33:=Tryz.sizeOf111
 v33:=Tryz.zeroValue111 }
def Tryz.keys56_ren : Go.Shelf.Ren:=⟨fun | 7=>56 | 10=>102 | n=>n,fun | 23=>73 | 26=>3 | 3=>54 | 28=>96 | 0=>0 | 27=>95 | 33=>111 | 4=>4 | n=>n,fun | n=>n⟩
theorem Tryz.keys56 : Go.Proofs.SlLaysZI.n7 Tryz.prog Tryz.keys56_ren:={
 mixed:=by kernel_rfl
 f7:=⟨Tryz.f56.name,by decide,Tryz.func56.trans (congrArg some (by kernel_rfl))⟩
 f10:=⟨Tryz.f102.name,by decide,Tryz.func102.trans (congrArg some (by kernel_rfl))⟩
 t0:=Tryz.underlying0
 a0:=Tryz.isAgg0
 z0:=Tryz.sizeOf0
 v0:=Tryz.zeroValue0
 t4:=Tryz.underlying4
 a4:=Tryz.isAgg4
 z4:=Tryz.sizeOf4
 v4:=Tryz.zeroValue4
 t23:=Tryz.underlying73
 a23:=Tryz.isAgg73
 z23:=Tryz.sizeOf73
 v23:=Tryz.zeroValue73
 t26:=Tryz.underlying3
 a26:=Tryz.isAgg3
 z26:=Tryz.sizeOf3
 v26:=Tryz.zeroValue3
 t27:=Tryz.underlying95
 a27:=Tryz.isAgg95
 z27:=Tryz.sizeOf95
 v27:=Tryz.zeroValue95
 t28:=Tryz.underlying96
 a28:=Tryz.isAgg96
 z28:=Tryz.sizeOf96
 v28:=Tryz.zeroValue96
 t33:=Tryz.underlying111
 a33:=Tryz.isAgg111
 z33:=Tryz.sizeOf111
 v33:=Tryz.zeroValue111 }
def Tryz.keys99_ren : Go.Shelf.Ren:=⟨fun | 7=>99 | 10=>119 | n=>n,fun | 23=>89 | 26=>3 | 3=>4 | 28=>96 | 0=>0 | 27=>95 | 33=>111 | 4=>4 | n=>n,fun | n=>n⟩
theorem Tryz.keys99 : Go.Proofs.SlLaysZI.n7 Tryz.prog Tryz.keys99_ren:={
 mixed:=by kernel_rfl
 f7:=⟨Tryz.f99.name,by decide,Tryz.func99.trans (congrArg some (by kernel_rfl))⟩
 f10:=⟨Tryz.f119.name,by decide,Tryz.func119.trans (congrArg some (by kernel_rfl))⟩
 t0:=Tryz.underlying0
 a0:=Tryz.isAgg0
 z0:=Tryz.sizeOf0
 v0:=Tryz.zeroValue0
 t4:=Tryz.underlying4
 a4:=Tryz.isAgg4
 z4:=Tryz.sizeOf4
 v4:=Tryz.zeroValue4
 t23:=Tryz.underlying89
 a23:=Tryz.isAgg89
 z23:=Tryz.sizeOf89
 v23:=Tryz.zeroValue89
 t26:=Tryz.underlying3
 a26:=Tryz.isAgg3
 z26:=Tryz.sizeOf3
 v26:=Tryz.zeroValue3
 t27:=Tryz.underlying95
 a27:=Tryz.isAgg95
 z27:=Tryz.sizeOf95
 v27:=Tryz.zeroValue95
 t28:=Tryz.underlying96
 a28:=Tryz.isAgg96
 z28:=Tryz.sizeOf96
 v28:=Tryz.zeroValue96
 t33:=Tryz.underlying111
 a33:=Tryz.isAgg111
 z33:=Tryz.sizeOf111
 v33:=Tryz.zeroValue111 }
def Tryz.sorted53_ren : Go.Shelf.Ren:=⟨fun | 6=>53 | 8=>100 | 9=>88 | 11=>120 | 13=>116 | 12=>115 | 23=>132 | 24=>133 | 14=>123 | 15=>124 | 16=>125 | 17=>126 | 18=>127 | 19=>128 | 20=>129 | 21=>130 | 22=>131 | 25=>134 | 26=>135 | 27=>136 | 28=>137 | 29=>138 | 30=>139 | 31=>140 | n=>n,fun | 26=>3 | 28=>96 | 24=>33 | 0=>0 | 3=>3 | 37=>149 | 48=>163 | 50=>165 | 4=>4 | 40=>156 | 39=>155 | 45=>145 | 5=>5 | 9=>9 | 51=>166 | 55=>170 | 57=>172 | 58=>173 | 33=>111 | n=>n,fun | n=>n⟩
theorem Tryz.sorted53 : Go.Proofs.SlLaysZI.n6 Tryz.prog Tryz.sorted53_ren:={
 mixed:=by kernel_rfl
 f6:=⟨Tryz.f53.name,by decide,Tryz.func53.trans (congrArg some (by kernel_rfl))⟩
 f8:=⟨Tryz.f100.name,by decide,Tryz.func100.trans (congrArg some (by kernel_rfl))⟩
 f11:=⟨Tryz.f120.name,by decide,Tryz.func120.trans (congrArg some (by kernel_rfl))⟩
 t0:=Tryz.underlying0
 a0:=Tryz.isAgg0
 z0:=Tryz.sizeOf0
 v0:=Tryz.zeroValue0
 t24:=Tryz.underlying33
 a24:=Tryz.isAgg33
 z24:=Tryz.sizeOf33
 v24:=Tryz.zeroValue33
 t26:=Tryz.underlying3
 a26:=Tryz.isAgg3
 z26:=Tryz.sizeOf3
 v26:=Tryz.zeroValue3
 t28:=Tryz.underlying96
 a28:=Tryz.isAgg96
 z28:=Tryz.sizeOf96
 v28:=Tryz.zeroValue96
 i26:=by kernel_rfl }
def Tryz.clone103_ren : Go.Shelf.Ren:=⟨fun | 5=>103 | 7=>118 | n=>n,fun | 23=>73 | 25=>3 | 3=>54 | 4=>4 | 20=>20 | n=>n,fun | n=>n⟩
theorem Tryz.clone103 : Go.Proofs.SlLaysW.n5 Tryz.prog Tryz.clone103_ren:={
 mixed:=by kernel_rfl
 f5:=⟨Tryz.f103.name,by decide,Tryz.func103.trans (congrArg some (by kernel_rfl))⟩
 f7:=Tryz.func118.trans (congrArg some (by kernel_rfl))
 t4:=Tryz.underlying4
 a4:=Tryz.isAgg4
 z4:=Tryz.sizeOf4
 v4:=Tryz.zeroValue4
 t20:=Tryz.underlying20
 a20:=Tryz.isAgg20
 z20:=Tryz.sizeOf20
 v20:=Tryz.zeroValue20
 t23:=Tryz.underlying73
 a23:=Tryz.isAgg73
 z23:=Tryz.sizeOf73
 v23:=Tryz.zeroValue73 }
def Tryz.clone104_ren : Go.Shelf.Ren:=⟨fun | 5=>104 | 7=>118 | n=>n,fun | 23=>74 | 25=>3 | 3=>42 | 4=>4 | 20=>20 | n=>n,fun | n=>n⟩
theorem Tryz.clone104 : Go.Proofs.SlLaysW.n5 Tryz.prog Tryz.clone104_ren:={
 mixed:=by kernel_rfl
 f5:=⟨Tryz.f104.name,by decide,Tryz.func104.trans (congrArg some (by kernel_rfl))⟩
 f7:=Tryz.func118.trans (congrArg some (by kernel_rfl))
 t4:=Tryz.underlying4
 a4:=Tryz.isAgg4
 z4:=Tryz.sizeOf4
 v4:=Tryz.zeroValue4
 t20:=Tryz.underlying20
 a20:=Tryz.isAgg20
 z20:=Tryz.sizeOf20
 v20:=Tryz.zeroValue20
 t23:=Tryz.underlying74
 a23:=Tryz.isAgg74
 z23:=Tryz.sizeOf74
 v23:=Tryz.zeroValue74 }
def Tryz.clone92_ren : Go.Shelf.Ren:=⟨fun | 5=>92 | 7=>118 | n=>n,fun | 23=>89 | 25=>3 | 3=>4 | 4=>4 | 20=>20 | n=>n,fun | n=>n⟩
theorem Tryz.clone92 : Go.Proofs.SlLaysW.n5 Tryz.prog Tryz.clone92_ren:={
 mixed:=by kernel_rfl
 f5:=⟨Tryz.f92.name,by decide,Tryz.func92.trans (congrArg some (by kernel_rfl))⟩
 f7:=Tryz.func118.trans (congrArg some (by kernel_rfl))
 t4:=Tryz.underlying4
 a4:=Tryz.isAgg4
 z4:=Tryz.sizeOf4
 v4:=Tryz.zeroValue4
 t20:=Tryz.underlying20
 a20:=Tryz.isAgg20
 z20:=Tryz.sizeOf20
 v20:=Tryz.zeroValue20
 t23:=Tryz.underlying89
 a23:=Tryz.isAgg89
 z23:=Tryz.sizeOf89
 v23:=Tryz.zeroValue89 }
end Go.Proofs
namespace Go.Ab

theorem rng_ex {S R:Type}{g:Int→S→Option (S ⊕ R)}(Inv:Nat→S→Prop) (Ex:R→Prop){n:Nat}(h:∀ i s,i < n→Inv i s→(∃ s',g (i:Int) s=some (.inl s')∧Inv (i+1) s')∨∃ r,g (i:Int) s=some (.inr r)∧Ex r) :
  ∀ (k i:Nat) (s:S),i+k=n→Inv i s→(∃ s',rng g k (i:Int) s=some (.inl s')∧Inv n s')∨∃ r,rng g k (i:Int) s=some (.inr r)∧Ex r:=by
 intro k
 induction k with
 | zero=>intro i s hi hs; left; exact ⟨s,rfl,by rw [← hi]; simpa using hs⟩
 | succ k ih =>
  intro i s hi hs
  rcases h i s (by omega) hs with ⟨s',h1,h2⟩ | ⟨r,h1,h2⟩
  ·simp only [rng,h1,Option.bind_some]
   have:=ih (i+1) s' (by omega) h2
   simpa using this
  right
  exact ⟨r,by simp only [rng,h1,Option.bind_some],h2⟩
theorem rng_ex0 {S R:Type}{g:Int→S→Option (S ⊕ R)}(Inv:Nat→S→Prop) (Ex:R→Prop){n:Nat}(h:∀ i s,i < n→Inv i s→(∃ s',g (i:Int) s=some (.inl s')∧Inv (i+1) s')∨∃ r,g (i:Int) s=some (.inr r)∧Ex r){s:S}(h0:Inv 0 s) :
  (∃ s',rng g n 0 s=some (.inl s')∧Inv n s')∨∃ r,rng g n 0 s=some (.inr r)∧Ex r:=rng_ex Inv Ex h n 0 s (by omega) h0
theorem rng_inv {S R:Type}{g:Int→S→Option (S ⊕ R)}(Inv:Nat→S→Prop){n:Nat}(h:∀ i s,i < n→Inv i s→∃ s',g (i:Int) s=some (.inl s')∧Inv (i+1) s'){s:S}(h0:Inv 0 s) : ∃ s',rng g n 0 s=some (.inl s')∧Inv n s':=by
 rcases rng_ex0 Inv (fun _:R=>False) (fun i s hi hs=>.inl (h i s hi hs)) h0 with h | ⟨r,_,h⟩
 ·exact h
 exact h.elim
theorem ix_nat {α:Type}{x:List α}{i:Nat}(h:i < x.length) : ix x (i:Int)=some x[i]:=by
 unfold ix
 rw [if_pos (by omega)]
 simp [h]
theorem zBS {α:Type}(x:List α) : Int.toNat (List.length x : Int)=x.length:=by simp
end Go.Ab
namespace Go.Ab
open Go.RowKit Go.Shelf Go.Proofs Go.Eng

def Tot {α:Type}(p:Option α) (Q:α→Prop) : Prop:=∃ r,p=some r∧Q r
theorem zAB {α:Type}{r:α}{Q:α→Prop}(h:Q r) : Tot (some r) Q:=⟨r,rfl,h⟩
theorem Tot.bind {α β:Type}{p:Option α}{f:α→Option β}{Q:α→Prop}{R:β→Prop}(h:Tot p Q) (k:∀ r,Q r→Tot (f r) R) : Tot (p.bind f) R:=by
 obtain ⟨r,rfl,hq⟩:=h
 exact k r hq
theorem Tot.mono {α:Type}{p:Option α}{Q R:α→Prop}(h:Tot p Q) (k:∀ r,Q r→R r) : Tot p R:=let ⟨r,h1,h2⟩:=h; ⟨r,h1,k r h2⟩
theorem Tot.eq {α:Type}{p:Option α}{r:α}(h:Tot p (·=r)) : p=some r:=by obtain ⟨q,h1,rfl⟩:=h; exact h1
theorem zBN {α:Type}{p:Option α}{r:α}(h:p=some r) : Tot p (·=r):=⟨r,h,rfl⟩
theorem zAR {α:Type}{c:Bool}{p q:Option α}{Q:α→Prop}(ht:c=true→Tot p Q) (hf:c=false→Tot q Q) : Tot (bif c then p else q) Q:=by
 cases c
 ·exact hf rfl
 exact ht rfl
theorem zAi {α:Type}{c:Bool}{p:Option α}{Q:α→Prop}(h:c=true) (ht:Tot p Q) : Tot (bif c then p else none) Q:=by rw [h]; exact ht
theorem zAq {S R:Type}{g:Int→S→Option (S ⊕ R)}{n:Nat}{s:S}(Inv:Nat→S→Prop) (h0:Inv 0 s) (h:∀ i s,i < n→Inv i s→Tot (g (i:Int) s) fun o=>∃ s',o=.inl s'∧Inv (i+1) s') : Tot (rng g n 0 s) fun o=>∃ s',o=.inl s'∧Inv n s':=by
 obtain ⟨s',h1,h2⟩:=rng_inv (g:=g) (n:=n) (s:=s) Inv (fun i s hi hs=>by
  obtain ⟨r,h1,s',rfl,h2⟩:=h i s hi hs
  exact ⟨s',h1,h2⟩) h0
 exact ⟨_,h1,s',rfl,h2⟩
theorem zA1 {S R:Type}{g:Int→S→Option (S ⊕ R)}{n:Nat}{s:S}(Inv:Nat→S→Prop) (Ex:R→Prop) (h0:Inv 0 s) (h:∀ i s,i < n→Inv i s→Tot (g (i:Int) s) fun o=>(∃ s',o=.inl s'∧Inv (i+1) s')∨∃ r,o=.inr r∧Ex r) : Tot (rng g n 0 s) fun o=>(∃ s',o=.inl s'∧Inv n s')∨∃ r,o=.inr r∧Ex r:=by
 rcases rng_ex0 (g:=g) (n:=n) (s:=s) Inv Ex (fun i s hi hs=>by
  obtain ⟨r,h1,⟨s',rfl,h2⟩ | ⟨r,rfl,h2⟩⟩:=h i s hi hs
  ·exact .inl ⟨s',h1,h2⟩
  exact .inr ⟨r,h1,h2⟩) h0 with ⟨s',h1,h2⟩ | ⟨r,h1,h2⟩
 ·exact ⟨_,h1,.inl ⟨s',rfl,h2⟩⟩
 exact ⟨_,h1,.inr ⟨r,rfl,h2⟩⟩

theorem zBW {α:Type} [Inhabited α] {x:List α}{i:Nat}(h:i < x.length) : ix x (i:Int)=some (x.getD i default):=by
 rw [ix_nat h,List.getD_eq_getElem?_getD,List.getElem?_eq_getElem h]; rfl
theorem ix_int {α:Type} [Inhabited α] {x:List α}{z:Int}(h0:0≤z) (h:z < x.length) : ix x z=some (x.getD z.toNat default):=by
 have:=zBW (x:=x) (i:=z.toNat) (by omega)
 rwa [show ((z.toNat : Nat) : Int)=z by omega] at this
theorem zA2 {α:Type} [Inhabited α] {x:List α}{i:Nat}(h:i < x.length){β:Type}{f:α→Option β}{Q:β→Prop}(k:Tot (f (x.getD i default)) Q) : Tot ((ix x (i:Int)).bind f) Q:=by rw [zBW h]; exact k
theorem tot_ixz {α:Type} [Inhabited α] {x:List α}{z:Int}(h0:0≤z) (h:z < x.length){β:Type}{f:α→Option β}{Q:β→Prop}(k:Tot (f (x.getD z.toNat default)) Q) : Tot ((ix x z).bind f) Q:=by rw [ix_int h0 h]; exact k
theorem getD_set {α:Type}{x:List α}{i j:Nat}{v d:α}(h:i < x.length) : (x.set i v).getD j d=if i=j then v else x.getD j d:=by
 by_cases e : i=j
 ·subst e; rw [if_pos rfl,List.getD_eq_getElem?_getD,List.getElem?_set_self h]; rfl
 rw [if_neg e,List.getD_eq_getElem?_getD,List.getElem?_set_ne e,List.getD_eq_getElem?_getD]
theorem getD_take {α:Type}{x:List α}{n j:Nat}{d:α}(h:j < n) : (x.take n).getD j d=x.getD j d:=by
 simp only [List.getD_eq_getElem?_getD,List.getElem?_take,if_pos h]
theorem zBV {α:Type}{x:List α}{j:Nat}{d:α}(h:j < x.length) : x.getD j d∈x:=by
 rw [List.getD_eq_getElem?_getD,List.getElem?_eq_getElem h]; simp
theorem zB4 {α:Type}{x:List α}{v:α}(d:α) (h:v∈x) : ∃ j,j < x.length∧x.getD j d=v:=by
 obtain ⟨j,hj,rfl⟩:=List.getElem_of_mem h
 exact ⟨j,hj,by rw [List.getD_eq_getElem?_getD,List.getElem?_eq_getElem hj]; rfl⟩
theorem ext_getD {α:Type}{x y:List α}(d:α) (hl:x.length=y.length) (h:∀ j,j < x.length→x.getD j d=y.getD j d) : x=y:=by
 apply List.ext_getElem hl
 intro j h1 h2
 have:=h j h1
 rwa [List.getD_eq_getElem?_getD,List.getD_eq_getElem?_getD,List.getElem?_eq_getElem h1,List.getElem?_eq_getElem h2] at this
theorem zCx {α:Type}{x:List α}{i:Nat}(d:α) (h:i < x.length) : x.take (i+1)=x.take i++[x.getD i d]:=by
 rw [List.take_add_one,List.getElem?_eq_getElem h,List.getD_eq_getElem?_getD,List.getElem?_eq_getElem h]; rfl

def R64 (z:Int) : Prop:=-9223372036854775808≤z∧z≤9223372036854775807
theorem w64_id {z:Int}(h:R64 z) : w64 z=z:=wrap_i64 h
theorem zBf {b n:Nat}(h:n * b≤140737488355328) : apOk b n=true:=by
 simp only [apOk,Nat.ble_eq]; exact h
theorem slOk_t {lo hi:Int}{n:Nat}(h0:0≤lo) (h1:lo≤hi) (h2:hi≤n) : slOk lo hi n=true:=by
 simp only [slOk,Bool.and_eq_true,decide_eq_true_eq]; exact ⟨⟨h0,h1⟩,h2⟩

theorem zC1 {α β:Type} [DecidableEq α] (x:List (α×β)) (k q:α) (v:β) : mget (mset x k v) q=if q=k then some v else mget x q:=by
 induction x with
 | nil=>simp [mset,mget]
 | cons p r ih =>
  simp only [mset]
  by_cases h : k=p.1
  ·rw [if_pos h]
   simp only [mget]
   by_cases h1 : q=k
   ·rw [if_pos h1,if_pos h1]
   rw [if_neg h1,if_neg h1,if_neg (by rw [← h]; exact h1)]
  rw [if_neg h]
  simp only [mget]
  by_cases h1 : q=p.1
  ·rw [if_pos h1,if_pos h1,if_neg (by rw [h1]; exact fun e=>h e.symm)]
  rw [if_neg h1,if_neg h1]; exact ih
end Go.Ab
namespace Go.Ab

def insI (x:Int) : List Int→List Int
 | []=>[x]
 | y::r=>bif decide (x≤y) then x::y::r else y::insI x r
def zBT : List Int→List Int
 | []=>[]
 | x::r=>insI x (zBT r)
theorem insI_perm (x:Int) : ∀ l : List Int,(insI x l).Perm (x::l):=by
 intro l
 induction l with
 | nil=>exact List.Perm.refl _
 | cons y r ih =>
  unfold insI
  cases decide (x≤y)
  ·exact (List.Perm.cons _ ih).trans (List.Perm.swap _ _ _)
  exact List.Perm.refl _
theorem zBw : ∀ l : List Int,(zBT l).Perm l:=by
 intro l
 induction l with
 | nil=>exact List.Perm.refl _
 | cons x r ih=>exact (insI_perm x _).trans (List.Perm.cons _ ih)
theorem insI_sorted (x:Int) : ∀ l : List Int,l.Pairwise (·≤·)→(insI x l).Pairwise (·≤·):=by
 intro l
 induction l with
 | nil=>intro _; simp [insI]
 | cons y r ih =>
  intro h
  rw [List.pairwise_cons] at h
  unfold insI
  cases hc : decide (x≤y) with
  | false =>
   rw [cond_false,List.pairwise_cons]
   refine ⟨fun z hz=>?_,ih h.2⟩
   have h1 : ¬ x≤y:=of_decide_eq_false hc
   rcases List.mem_cons.1 ((insI_perm x r).mem_iff.1 hz) with rfl | hz
   ·omega
   exact h.1 z hz
  | true =>
   have h1 : x≤y:=of_decide_eq_true hc
   rw [cond_true,List.pairwise_cons]
   refine ⟨fun z hz=>?_,List.pairwise_cons.2 h⟩
   rcases List.mem_cons.1 hz with rfl | hz
   ·exact h1
   have:=h.1 z hz; omega
theorem isortI_sorted : ∀ l : List Int,(zBT l).Pairwise (·≤·):=by
 intro l
 induction l with
 | nil=>simp [zBT]
 | cons x r ih=>exact insI_sorted x _ ih
theorem sorted_uniq : ∀ {a b:List Int},a.Perm b→a.Pairwise (·≤·)→b.Pairwise (·≤·)→a=b:=by
 intro a
 induction a with
 | nil=>intro b hp _ _; exact (List.nil_perm.1 hp).symm
 | cons x a ih =>
  intro b hp ha hb
  cases b with
  | nil=>exact absurd (List.nil_perm.1 hp.symm) (by simp)
  | cons y b =>
   rw [List.pairwise_cons] at ha hb
   have h1 : x≤y:=by
    rcases List.mem_cons.1 (hp.mem_iff.2 (List.mem_cons_self (a:=y) (l:=b))) with h | h
    ·omega
    exact ha.1 y h
   have h2 : y≤x:=by
    rcases List.mem_cons.1 (hp.mem_iff.1 (List.mem_cons_self (a:=x) (l:=a))) with h | h
    ·omega
    exact hb.1 x h
   have h3 : x=y:=by omega
   subst h3
   rw [ih ((List.perm_cons x).1 hp) ha.2 hb.2]
theorem isort_eq (l:List Int) : (l.mergeSort fun x y=>decide (x≤y))=zBT l:=by
 refine sorted_uniq ((List.mergeSort_perm _ _).trans (zBw l).symm) ?_ (isortI_sorted l)
 have:=List.pairwise_mergeSort (le:=fun (x y:Int)=>decide (x≤y)) (by intro a b c h1 h2; simp at *; omega) (by intro a b; simp; omega) l
 exact this.imp (fun h=>by simpa using h)
def compI (z:List Int) : List Int:=((List.range z.length).filter fun j=>decide (j=0)||!decide (z.getD j 0=z.getD (j - 1) 0)).map fun j=>z.getD j 0

end Go.Ab
namespace Go.Ab
def zBs {α:Type}(x:List α) : Option (List α):=some x
def skeys {α:Type}(x:List (Int×α)) : Option (List Int):=bif (x.all fun p=>decide (-9223372036854775808≤p.1)&&decide (p.1≤9223372036854775807))&&Nat.ble x.length 1000000000000 then some (zBT (x.map (·.1))) else none
def f88 (p0_0:List Int) : Option (List Int):=bif Nat.blt p0_0.length 4611686018427387904 then some (zBT p0_0) else none
def f89 (p0_0:List Int) : Option (List Int):=bif Nat.ble p0_0.length 9223372036854775807 then some (compI p0_0) else none
end Go.Ab
namespace Go.Ab
open Go.RowKit Go.Shelf Go.Proofs Go.Eng
theorem runs_clone {P:Program}{f:FuncId}{tk tv:Ty}{x:List (tk.den×tv.den)}(h:∀ b es cl w,w.heap[b]?=some (.map es cl)→Calls P f #[.map (some b)] w fun e w'=>e=.returned (.map (some w.heap.size))∧w'=w.alloc (.map es cl)) :
  Runs P f [.map 0] [.map tk tv x] (fun q Hq=>q=[.map 1]∧Hq=[.map tk tv x,.map tk tv x]):=by
 intro e w m ρ φ F vs hv ho hs
 obtain ⟨hd,fr,rfl,rfl,hor⟩:=ho.one
 obtain ⟨u,rfl,hu⟩:=zCG hv
 simp only [RepA] at hu
 have hu1 : hd=u:=by simpa using hu.1
 subst hu1
 obtain ⟨x',hp,b,es,cl,rfl,rfl,h1,h2,h3,h4⟩:=hor
 have hw : w.heap[b]?=some (.map es cl):=hs.own (b,.map es cl) (by simp)
 refine Calls.mono (h b es cl w hw) ?_
 rintro e' w' ⟨rfl,rfl⟩
 have hN:=zBh w (.map es cl)
 have hs2:=hs.alloc hN rfl
 refine ⟨_,rfl,dk_new hN,[.map 1],_,m,[.map (some b),.map (some w.heap.size)],[[(b,.map es cl)],[(w.heap.size,.map es cl)]],⟨rfl,rfl⟩,Mem.le_refl _,fun i h hi=>?_,by simp,⟨rfl,rfl,fun i o u f hi hh hf=>?_⟩,hs2.perm ?_,[.map (some w.heap.size)],?_,rfl⟩
 ·cases i with
  | zero=>simpa using hi
  | succ i=>simp at hi
 ·cases i with
  | zero=>simp at hi hh hf; subst hi hh hf; exact ⟨x',hp,b,es,cl,rfl,rfl,h1,h2,h3,h4⟩
  | succ i=>cases i with
   | zero=>simp at hi hh hf; subst hi hh hf; exact ⟨x',hp,w.heap.size,es,cl,rfl,rfl,h1,h2,h3,h4⟩
   | succ i=>simp at hi
 ·simp only [List.flatten_cons,List.flatten_nil,List.append_nil,List.singleton_append,List.cons_append,List.nil_append]
  exact List.Perm.swap _ _ _
 simp only [RepL,RepA]; exact ⟨⟨rfl,rfl⟩,trivial⟩
end Go.Ab
namespace Go.Ab
open Go.RowKit Go.Shelf Go.Proofs Go.Eng
theorem runs_keys {P:Program}{f g T:Nat}{tk tv:Ty}{x:List (tk.den×tv.den)}(h:∀ mb w,Calls P f #[.map mb] w fun e w'=>e=.returned (.func (.func g) #[] #[.pointer (some ⟨w.heap.size,0,none⟩)])∧w'=w.alloc (.cells #[.map mb] T)) :
  Runs P f [.dm tk tv x] [] (fun q Hq=>q=[.fn g [] [.ptr 0 0]]∧Hq=[.var T [.dm tk tv x]]):=by
 intro e w m ρ φ F vs hv ho hs
 have hρ : ρ=[]:=List.eq_nil_of_length_eq_zero ho.nρ
 have hφ : φ=[]:=List.eq_nil_of_length_eq_zero ho.nφ
 subst hρ hφ
 obtain ⟨u,rfl,hu⟩:=zCG hv
 simp only [RepA] at hu
 obtain ⟨mb,rfl⟩ : ∃ mb,u=.map mb:=by
  rcases dm_cases hu with ⟨_,rfl⟩ | ⟨_,_,b,_,_,rfl,_⟩ <;> exact ⟨_,rfl⟩
 refine Calls.mono (h mb w) ?_
 rintro e' w' ⟨rfl,rfl⟩
 have hN:=zBh w (.cells #[.map mb] T (0,0))
 have hs2:=hs.alloc hN rfl
 refine ⟨_,rfl,dk_new hN,_,_,m,[.pointer (some ⟨w.heap.size,0,none⟩)],[[(w.heap.size,.cells #[.map mb] T (0,0))]],⟨rfl,rfl⟩,Mem.le_refl _,fun i h hi=>by simp at hi,by simp,⟨rfl,rfl,fun i o u f hi hh hf=>?_⟩,by simpa using hs2,[.func (.func g) #[] #[.pointer (some ⟨w.heap.size,0,none⟩)]],?_,rfl⟩
 ·cases i with
  | zero =>
   simp at hi hh hf; subst hi hh hf
   refine ⟨w.heap.size,[.map mb],rfl,rfl,?_,fun v hv=>by simp at hv; subst hv; rfl⟩
   simp only [RepL,RepA]; exact ⟨hu,trivial⟩
  | succ i=>simp at hi
 simp only [RepL,RepA]
 exact ⟨⟨[],[.pointer (some ⟨w.heap.size,0,none⟩)],rfl,by simp [RepL],by simp [RepL,RepA]⟩,trivial⟩

theorem SH.addnew {e w w':World}{m:Mem}{f:Frag}{b:Nat}{o:Obj}(h:SH e w m f) (hb:Below w.heap.size w w') (hn:w.heap.size≤b) (ho:w'.heap[b]?=some o) (hc:ctl o=false) : SH e w' m ((b,o)::f):=by
 have h2:=h.ext hb
 refine ⟨h2.os,h2.tape,h2.output,h2.fz,fun p hp=>?_,?_,fun p hp=>?_,fun p hp=>?_,h2.mctl,h2.esz⟩
 ·rcases List.mem_cons.1 hp with rfl | hp
  ·exact ho
  exact h2.own p hp
 ·rw [List.map_cons,List.nodup_cons]
  refine ⟨fun hm=>?_,h2.nd⟩
  obtain ⟨p,hp,e1⟩:=List.mem_map.1 hm
  have:=h.lt hp
  simp only at e1; omega
 ·rcases List.mem_cons.1 hp with rfl | hp
  ·cases hmm : m b with
   | none=>rfl
   | some o'=>have:=(Array.getElem?_eq_some_iff.1 (h.fz _ _ hmm)).1; omega
  exact h2.dis p hp
 rcases List.mem_cons.1 hp with rfl | hp
 ·intro h9; rw [hc] at h9; cases h9
 exact h2.noctl p hp

section
variable {P:Program} {tv:Ty}
def R0 : Value→Option (DataW Unit×List MemPlace):=fun _=>some (.nil,[])
theorem keyOf_int {kT:Nat}(hk:P.underlying kT=some (.int .i64)){z:Int}(h1:-9223372036854775808≤z) (h2:z≤9223372036854775807) : keyOf P kT (.int .i64 z)=some (.int .i64 z):=by
 unfold keyOf
 rw [hk]
 simp only [mapKey,hk]
 rw [if_pos]
 refine ⟨by trivial,?_⟩
 simp only [Lit.wf,Bool.and_eq_true,decide_eq_true_eq]
 exact ⟨h1,h2⟩
theorem owns_int {kT b:Nat}(hk:P.underlying kT=some (.int .i64)){x:List (Int×tv.den)}{m:Mem}{w:World}{es:Array MapEntry}{cl:Nat}(hw:w.heap[b]?=some (.map es cl)) (hE:EntM m (.int .i64) tv x es cl) (hr:∀ p∈x,-9223372036854775808≤p.1∧p.1≤9223372036854775807) (hl:x.length≤1000000000000) :
  ∃ D0 : DataW Unit,w.ownsMap P kT R0 b x.length D0∧Maps.size D0=x.length∧(intKeys D0).Perm (x.map (·.1)):=by
 have hlen : es.toList.length=x.length:=hE.1
 have hkey : ∀ (i:Nat) (e:MapEntry),es.toList[i]?=some e→∃ p,x[i]?=some p∧e.key=.int .i64 p.1:=by
  intro i e he
  have hi:=(List.getElem?_eq_some_iff.1 he).1
  have hx : x[i]?=some (x[i]'(by omega)):=List.getElem?_eq_getElem (by omega)
  have h1:=(hE.2.2.2 i _ e hx he).1
  refine ⟨_,hx,?_⟩
  simpa [RV,Ty.agg,RC] using h1
 have hkl : es.toList.map (·.key)=x.map fun p=>Value.int .i64 p.1:=by
  refine List.ext_getElem? fun i=>?_
  rw [List.getElem?_map,List.getElem?_map]
  rcases h : es.toList[i]? with _ | e
  ·have : x[i]?=none:=by rw [List.getElem?_eq_none_iff] at h ⊢; omega
   rw [this]; rfl
  obtain ⟨p,h1,h2⟩:=hkey i e h
  rw [h1]; simp [h2]
 have hrd : ∀ e∈es.toList,∃ p∈x,WideElems.rd P kT R0 e=some (Lit.int .i64 p.1,DataW.nil)∧e.key=.int .i64 p.1:=by
  intro e he
  obtain ⟨i,hi⟩:=List.getElem?_of_mem he
  obtain ⟨p,h1,h2⟩:=hkey i e hi
  have hp:=List.mem_of_getElem? h1
  refine ⟨p,hp,?_,h2⟩
  unfold WideElems.rd
  rw [h2,keyOf_int hk (hr p hp).1 (hr p hp).2]
  rfl
 refine ⟨_,⟨es,cl,hw,⟨?_,⟨fun e he=>hE.2.2.1.2 e he,hE.2.2.1.1,?_⟩,fun e he=>let ⟨p,_,h,_⟩:=hrd e he; ⟨_,h⟩⟩,?_,rfl⟩,?_,?_⟩
 ·have h1 : es.size=x.length:=by simpa using hlen
  rw [h1]; simp only [maxLen]; omega
 ·rw [hkl]
  have h2 : (x.map fun p=>Value.int .i64 p.1)=(x.map (·.1)).map (Value.int .i64):=by simp
  rw [h2]
  refine List.Pairwise.map _ ?_ hE.2.1
  intro a b hab e
  exact hab (by simpa using e)
 ·have h1 : es.size=x.length:=by simpa using hlen
  omega
 ·simp only [Maps.size]
  rw [(WideShapes.sorted_perm _).length_eq,List.length_map]; exact hlen
 simp only [intKeys]
 refine ((WideShapes.sorted_perm _).map _).trans ?_
 rw [List.map_map]
 refine List.Perm.of_eq ?_
 refine List.ext_getElem? fun i=>?_
 rw [List.getElem?_map,List.getElem?_map]
 rcases h : es.toList[i]? with _ | e
 ·have : x[i]?=none:=by rw [List.getElem?_eq_none_iff] at h ⊢; omega
  rw [this]; rfl
 obtain ⟨p,h1,h2⟩:=hkey i e h
 have hp:=List.mem_of_getElem? h1
 rw [h1]
 simp only [Option.map_some,Function.comp,WideElems.rg,WideElems.rd,h2,keyOf_int hk (hr p hp).1 (hr p hp).2,R0]
 rfl
end
end Go.Ab
namespace Go.Ab
open Go.RowKit Go.Shelf Go.Proofs Go.Eng Go.Maps Go.Sort
theorem Tryz_sorts53 (m:Nat) : AnyZI.SortsIn Tryz.prog Tryz.sorted53_ren Fence.wide m :=
 ⟨fun blk off cap ss W hH hblk hsz=>callsIn_wide.2 (Any.slices_Sort_int Tryz.laysSort blk off cap ss W hH hblk hsz),fun p cap W=>callsIn_wide.2 (Any.slices_Sort_int_none Tryz.laysSort p cap W)⟩
def SortG (g:Nat) (S:List Int→Prop) (Bm:Nat) (w:World) : Prop :=
 Calls Tryz.prog 53 #[.func (.func g) #[] #[.pointer (some ⟨Bm,0,none⟩)]] w fun e w'=>∃ (v:Value) (ss:List Int),e=.returned v∧S ss∧w'.ownsRow w.heap.size 3 1 v ss.length ((ss.mergeSort fun x y=>decide (x≤y)).map (Value.int .i64))∧Below w.heap.size w w'
theorem sortG {g:Nat}(eg:∀ args w,(callFunc g args).run Tryz.prog w=.ok (.enter g args) w){S:List Int→Prop}{Bm n:Nat}{w:World}(hn:n≤1000000000000) (hseq:SeqGives Fence.wide 2 Tryz.prog g #[.pointer (some ⟨Bm,0,none⟩)] encZ S n w) : SortG g S Bm w:=by
 unfold SortG
 refine (callsIn_wide (n:=5)).1 ?_
 have cS:=AnyZI.sorted_in Tryz.sorted53 Fence.wide 5 trivial trivial trivial trivial rfl (by omega) (Tryz_sorts53 _) (enters_of Tryz.func88 (by kernel_rfl) rfl) g #[.pointer (some ⟨Bm,0,none⟩)] trivial eg S n (by simp only [maxLen]; omega) (by omega) w hseq
 refine CallsIn.mono cS ?_
 rintro e w' ⟨v,ss,h1,h2,h3,_,h4⟩
 exact ⟨v,ss,h1,h2,h3,h4⟩
theorem skeys_some {α:Type}{x:List (Int×α)}{r:List Int}(h:skeys x=some r) : (∀ p∈x,-9223372036854775808≤p.1∧p.1≤9223372036854775807)∧x.length≤1000000000000∧r=zBT (x.map (·.1)):=by
 unfold skeys at h
 obtain ⟨h1,h2⟩:=zAN h
 rw [Bool.and_eq_true,List.all_eq_true] at h1
 refine ⟨fun p hp=>by have:=h1.1 p hp; simpa using this,Nat.le_of_ble_eq_true h1.2,(Option.some.inj h2).symm⟩
theorem runs_sorted {g T:Nat}{tv:Ty}{x:List (Int×tv.den)}{r:List Int}(hr:skeys x=some r)
  (h1:∀ (Bm b nn:Nat) (D0:DataW Unit) (w:World),Bm < w.heap.size→w.cell? ⟨Bm,0,none⟩=some (.map (some b))→w.ownsMap Tryz.prog 3 R0 b nn D0→Maps.size D0≤1000000000000→SortG g (fun ss=>ss.Perm (intKeys D0)) Bm w)
  (h0:∀ (Bm:Nat) (w:World),Bm < w.heap.size→w.cell? ⟨Bm,0,none⟩=some (.map none)→SortG g (fun ss=>ss=[]) Bm w) :
  Runs Tryz.prog 53 [.fn g [] [.ptr 0 0]] [.var T [.dm (.int .i64) tv x]] (fun q Hq=>q=[.osl 1]∧Hq=[.var T [.dm (.int .i64) tv x],.sl 3 (.int .i64) r]):=by
 obtain ⟨k1,k2,rfl⟩:=skeys_some hr
 intro e w m ρ φ F vs hv ho hs
 obtain ⟨hd,fr,rfl,rfl,hor⟩:=ho.one
 obtain ⟨u,rfl,hu⟩:=zCG hv
 simp only [RepA] at hu
 obtain ⟨us,ws,rfl,hu1,hu2⟩:=hu
 cases us with
 | cons=>simp [RepL] at hu1
 | nil =>
 obtain ⟨p,rfl,hp⟩:=zCG hu2
 simp only [RepA] at hp
 obtain ⟨B,hB,rfl⟩:=hp
 have hB : hd=.pointer (some ⟨B,0,none⟩):=by simpa using hB
 subst hB
 obtain ⟨B',cs,e1,rfl,hc,hone⟩:=hor
 cases e1
 obtain ⟨c,rfl,hc1⟩:=zCG hc
 have hc : RC m (.map (.int .i64) tv) x [c]:=by simpa only [RepA] using hc1
 have hblk : w.heap[B]?=some (.cells #[c] T (0,0)):=hs.own (B,_) (by simp)
 have hBl : B < w.heap.size:=(Array.getElem?_eq_some_iff.1 hblk).1
 have hcell : w.cell? ⟨B,0,none⟩=some c:=cell_blk hblk (by simp)
 have hS : ∃ S : List Int→Prop,SortG g S B w∧∀ ss,S ss→ss.Perm (x.map (·.1)):=by
  rcases dm_cases hc with ⟨rfl,rfl⟩ | ⟨x',hpm,b,es,cl,rfl,hmb,hE⟩
  ·exact ⟨_,h0 B w hBl hcell,fun ss h=>by subst h; exact List.Perm.refl _⟩
  obtain ⟨D0,g1,g2,g3⟩:=owns_int (P:=Tryz.prog) (kT:=3) (by kernel_rfl) (hs.fz _ _ hmb) hE (fun p hp=>k1 p (hpm.mem_iff.1 hp)) (by rw [hpm.length_eq]; exact k2)
  exact ⟨_,h1 B b _ D0 w hBl hcell g1 (by rw [g2,hpm.length_eq]; exact k2),fun ss h=>(h.trans g3).trans (hpm.map _)⟩
 obtain ⟨S,hS1,hS2⟩:=hS
 refine Calls.mono hS1 ?_
 rintro e' w' ⟨v,ss,rfl,hss,hrow,hbl⟩
 have hpm:=hS2 ss hss
 have hso : (ss.mergeSort fun x y=>decide (x≤y))=zBT (x.map (·.1)):=by
  rw [isort_eq]; exact sorted_uniq ((zBw ss).trans (hpm.trans (zBw _).symm)) (isortI_sorted ss) (isortI_sorted _)
 have hln : (zBT (x.map (·.1))).length=ss.length:=by rw [(zBw _).length_eq,hpm.length_eq]
 have hlx : ss.length≤1000000000000:=by rw [hpm.length_eq,List.length_map]; exact k2
 rw [hso] at hrow
 have hdk : DK nox w w'∧w.heap.size≤w'.heap.size:=⟨DK.of_below hbl,hbl.size⟩
 have hrows : zBo m (.int .i64) (zBT (x.map (·.1))) ((zBT (x.map (·.1))).map (Value.int .i64)):=enc_rows (enc_int .i64) _
 obtain ⟨hz,⟨rfl,hn0⟩ | ⟨q,cap,cur,rfl,q1,q2,q3,q4,q5,q6⟩⟩:=hrow
 ·refine ⟨_,rfl,hdk,_,_,m,[.pointer (some ⟨B,0,none⟩),.slice none 0 0],[[(B,.cells #[c] T (0,0))],[]],⟨rfl,rfl⟩,Mem.le_refl _,fun i h hi=>?_,by simp,⟨rfl,rfl,fun i o u f hi hh hf=>?_⟩,by simpa using hs.ext hbl,[.slice none 0 0],?_,rfl⟩
  ·cases i with
   | zero=>simpa using hi
   | succ i=>simp at hi
  ·cases i with
   | zero=>simp at hi hh hf; subst hi hh hf; exact ⟨B,[c],rfl,rfl,by simp only [RepL,RepA]; exact ⟨hc,trivial⟩,hone⟩
   | succ i=>cases i with
    | zero=>simp at hi hh hf; subst hi hh hf; exact ⟨by rw [hln]; exact Nat.le_trans hlx (by decide),.inl ⟨List.eq_nil_of_length_eq_zero (by omega),rfl,rfl⟩⟩
    | succ i=>simp at hi
  simp only [RepL,RepA]; exact ⟨⟨rfl,rfl⟩,trivial⟩
 have hs2:=hs.addnew hbl q1 q2 rfl
 refine ⟨_,rfl,hdk,_,_,m,[.pointer (some ⟨B,0,none⟩),.slice (some ⟨q,0,none⟩) ss.length cap],[[(B,.cells #[c] T (0,0))],[(q,.cells cur 3 (0,0))]],⟨rfl,rfl⟩,Mem.le_refl _,fun i h hi=>?_,by simp,⟨rfl,rfl,fun i o u f hi hh hf=>?_⟩,hs2.perm ?_,[.slice (some ⟨q,0,none⟩) ss.length cap],?_,rfl⟩
 ·cases i with
  | zero=>simpa using hi
  | succ i=>simp at hi
 ·cases i with
  | zero=>simp at hi hh hf; subst hi hh hf; exact ⟨B,[c],rfl,rfl,by simp only [RepL,RepA]; exact ⟨hc,trivial⟩,hone⟩
  | succ i=>cases i with
   | zero =>
    simp at hi hh hf; subst hi hh hf
    exact ⟨by rw [hln]; exact Nat.le_trans hlx (by decide),.inr ⟨q,cap,cur,_,by rw [hln],rfl,by rw [hln]; exact q3,q4,by simpa [Ty.cells] using q5,hrows,by rw [hln]; exact q6⟩⟩
   | succ i=>simp at hi
 ·simp only [List.flatten_cons,List.flatten_nil,List.append_nil,List.singleton_append,List.cons_append,List.nil_append]
  exact List.Perm.swap _ _ _
 simp only [RepL,RepA]; exact ⟨⟨rfl,rfl⟩,trivial⟩
end Go.Ab
namespace Go.Ab
open Go.RowKit Go.Shelf Go.Proofs Go.Eng Go.Maps Go.Sort
instance : Inhabited (Ty.int .i64).den:=⟨(0:Int)⟩
theorem f88_runs {p0_0:List Int}{r:List Int}(hr:f88 p0_0=some r) : Runs Tryz.prog 88 [.osl 0] [.sl 3 (.int .i64) p0_0] (fun q Hq=>q=[]∧Hq=[.sl 3 (.int .i64) r]):=by
 unfold f88 at hr
 obtain ⟨h,hr⟩:=zAN hr
 have hr:=Option.some.inj hr
 subst hr
 have hl : p0_0.length < 4611686018427387904:=by simpa using h
 rw [← isort_eq]
 exact runs_row (enc_int .i64) (by simp) (fun b cap w g1 g2 _=>Any.slices_Sort_int Tryz.laysSort b 0 cap p0_0 w g1 g2 hl) (fun w=>Any.slices_Sort_int_none Tryz.laysSort none 0 w)
theorem compact_eq (z:List Int) : Lib.compact z=compI z:=by
 unfold Lib.compact Lib.compactUpTo compI Lib.keeps
 have e : ∀ j : Nat,z.toArray[j]! = z.getD j 0:=fun j=>by
  rw [List.getD_eq_getElem?_getD,getElem!_def]
  simp only [List.getElem?_toArray]
  cases z[j]? <;> rfl
 simp only [e]
 congr 1
 apply List.filter_congr
 intro j hj
 by_cases h : j=0
 ·simp [h]
 simp [h]
theorem compact_le (zs:List Int) : (Lib.compact zs).length≤zs.length:=by
 unfold Lib.compact Lib.compactUpTo
 rw [List.length_map]
 exact Nat.le_trans (List.length_filter_le _ _) (by simp)
theorem f89_runs {p0_0:List Int}{r:List Int}(hr:f89 p0_0=some r) : Runs Tryz.prog 89 [.osl 0] [.sl 3 (.int .i64) p0_0] (fun q Hq=>q=[.osl 1]∧Hq=[.dead,.sl 3 (.int .i64) r]):=by
 unfold f89 at hr
 obtain ⟨h,hr⟩:=zAN hr
 have hr:=Option.some.inj hr
 subst hr
 have hl : p0_0.length≤9223372036854775807:=by simpa using h
 have hc:=compact_le p0_0
 rw [← compact_eq]
 refine runs_rowS (rest:=List.replicate (p0_0.length - (Lib.compact p0_0).length) 0) (enc_int .i64) (by simp; omega) (fun b cap w g1 g2 g3=>?_) (fun w=>Any.slices_Compact_int_empty Tryz.laysCompact none 0 w)
 refine Calls.mono (Any.slices_Compact_int Tryz.laysCompact b 0 cap p0_0 w g1 hl g3) ?_
 rintro e w' ⟨h1,q,h2⟩
 exact ⟨h1,q,#[],by rw [Sort.grow_empty]; exact h2⟩
theorem mcl {α:Type}{x r:List α}(h:zBs x=some r) : x=r:=Option.some.inj h
abbrev ThT : Ty:=.st (.pair (.int .i64) (.pair (.int .i64) .str))
abbrev TiT : Ty:=.st (.pair (.int .i64) (.pair .str (.slice (.int .i64))))
theorem f103_runs {p0_0 r:List ((Ty.int .i64).den×Ty.den ThT)}(hr:zBs p0_0=some r) : Runs Tryz.prog 103 [.map 0] [.map (.int .i64) ThT p0_0] (fun q Hq=>q=[.map 1]∧Hq=[.map (.int .i64) ThT p0_0,.map (.int .i64) ThT r]):=by
 obtain rfl:=mcl hr
 exact runs_clone fun b es cl w hb=>AnyW.maps_Clone Tryz.clone103 b es cl w hb
theorem f104_runs {p0_0 r:List ((Ty.int .i64).den×Ty.den TiT)}(hr:zBs p0_0=some r) : Runs Tryz.prog 104 [.map 0] [.map (.int .i64) TiT p0_0] (fun q Hq=>q=[.map 1]∧Hq=[.map (.int .i64) TiT p0_0,.map (.int .i64) TiT r]):=by
 obtain rfl:=mcl hr
 exact runs_clone fun b es cl w hb=>AnyW.maps_Clone Tryz.clone104 b es cl w hb
theorem f92_runs {p0_0 r:List ((Ty.int .i64).den×Ty.den .bool)}(hr:zBs p0_0=some r) : Runs Tryz.prog 92 [.map 0] [.map (.int .i64) .bool p0_0] (fun q Hq=>q=[.map 1]∧Hq=[.map (.int .i64) .bool p0_0,.map (.int .i64) .bool r]):=by
 obtain rfl:=mcl hr
 exact runs_clone fun b es cl w hb=>AnyW.maps_Clone Tryz.clone92 b es cl w hb
theorem f56_runs {p0 r:List ((Ty.int .i64).den×Ty.den ThT)}(hr:zBs p0=some r) : Runs Tryz.prog 56 [.dm (.int .i64) ThT p0] [] (fun q Hq=>q=[.fn 102 [] [.ptr 0 0]]∧Hq=[.var 73 [.dm (.int .i64) ThT r]]):=by
 obtain rfl:=mcl hr
 exact runs_keys fun mb w=>(callsIn_wide (n:=5)).1 (AnyZI.keys_in Tryz.keys56 Fence.wide 5 trivial rfl mb w)
theorem f53_102_runs {p0:List ((Ty.int .i64).den×Ty.den ThT)}{r:List Int}(hr:skeys p0=some r) : Runs Tryz.prog 53 [.fn 102 [] [.ptr 0 0]] [.var 73 [.dm (.int .i64) ThT p0]] (fun q Hq=>q=[.osl 1]∧Hq=[.var 73 [.dm (.int .i64) ThT p0],.sl 3 (.int .i64) r]) :=
 runs_sorted hr (fun Bm b nn D0 w hB hm ho hn=>sortG (enters_of Tryz.func102 (by kernel_rfl) rfl) hn (AnyZI.keys_gives (ρ:=Tryz.keys56_ren) { Tryz.keys56 with } Fence.wide _ trivial rfl (by omega) Bm b nn D0 w hB hm ho)) (fun Bm w hB hm=>sortG (n:=0) (enters_of Tryz.func102 (by kernel_rfl) rfl) (by omega) (AnyZI.keys_gives_nil (ρ:=Tryz.keys56_ren) { Tryz.keys56 with } Fence.wide _ trivial rfl Bm w hB hm))
theorem f54_runs {p0 r:List ((Ty.int .i64).den×Ty.den TiT)}(hr:zBs p0=some r) : Runs Tryz.prog 54 [.dm (.int .i64) TiT p0] [] (fun q Hq=>q=[.fn 101 [] [.ptr 0 0]]∧Hq=[.var 74 [.dm (.int .i64) TiT r]]):=by
 obtain rfl:=mcl hr
 exact runs_keys fun mb w=>(callsIn_wide (n:=5)).1 (AnyZI.keys_in Tryz.keys54 Fence.wide 5 trivial rfl mb w)
theorem f53_101_runs {p0:List ((Ty.int .i64).den×Ty.den TiT)}{r:List Int}(hr:skeys p0=some r) : Runs Tryz.prog 53 [.fn 101 [] [.ptr 0 0]] [.var 74 [.dm (.int .i64) TiT p0]] (fun q Hq=>q=[.osl 1]∧Hq=[.var 74 [.dm (.int .i64) TiT p0],.sl 3 (.int .i64) r]) :=
 runs_sorted hr (fun Bm b nn D0 w hB hm ho hn=>sortG (enters_of Tryz.func101 (by kernel_rfl) rfl) hn (AnyZI.keys_gives (ρ:=Tryz.keys54_ren) { Tryz.keys54 with } Fence.wide _ trivial rfl (by omega) Bm b nn D0 w hB hm ho)) (fun Bm w hB hm=>sortG (n:=0) (enters_of Tryz.func101 (by kernel_rfl) rfl) (by omega) (AnyZI.keys_gives_nil (ρ:=Tryz.keys54_ren) { Tryz.keys54 with } Fence.wide _ trivial rfl Bm w hB hm))
theorem f99_runs {p0 r:List ((Ty.int .i64).den×Ty.den .bool)}(hr:zBs p0=some r) : Runs Tryz.prog 99 [.dm (.int .i64) .bool p0] [] (fun q Hq=>q=[.fn 119 [] [.ptr 0 0]]∧Hq=[.var 89 [.dm (.int .i64) .bool r]]):=by
 obtain rfl:=mcl hr
 exact runs_keys fun mb w=>(callsIn_wide (n:=5)).1 (AnyZI.keys_in Tryz.keys99 Fence.wide 5 trivial rfl mb w)
theorem f53_119_runs {p0:List ((Ty.int .i64).den×Ty.den .bool)}{r:List Int}(hr:skeys p0=some r) : Runs Tryz.prog 53 [.fn 119 [] [.ptr 0 0]] [.var 89 [.dm (.int .i64) .bool p0]] (fun q Hq=>q=[.osl 1]∧Hq=[.var 89 [.dm (.int .i64) .bool p0],.sl 3 (.int .i64) r]) :=
 runs_sorted hr (fun Bm b nn D0 w hB hm ho hn=>sortG (enters_of Tryz.func119 (by kernel_rfl) rfl) hn (AnyZI.keys_gives (ρ:=Tryz.keys99_ren) { Tryz.keys99 with } Fence.wide _ trivial rfl (by omega) Bm b nn D0 w hB hm ho)) (fun Bm w hB hm=>sortG (n:=0) (enters_of Tryz.func119 (by kernel_rfl) rfl) (by omega) (AnyZI.keys_gives_nil (ρ:=Tryz.keys99_ren) { Tryz.keys99 with } Fence.wide _ trivial rfl Bm w hB hm))
end Go.Ab
namespace Go.Ab
def f6_b1 (p1:List (ZA)) (i5:Int) (s:Unit) : Option (Unit ⊕ Unit) :=
(ix p1 i5).bind fun x10 =>
bif ((decide (1010 < (List.length x10.2.2.2.2.1 : Int)))||(decide (150 < (w64 ((w64 ((List.length x10.2.2.2.2.2.1 : Int)+(List.length x10.2.2.2.2.2.2.1 : Int)))+(List.length x10.2.2.2.2.2.2.2.1 : Int))))))||(decide (6 < (List.length x10.2.2.2.2.2.2.2.2 : Int))) then
(some (.inr ()))
else
(some (.inl ()))
def f6_b2 (x14:ZS) (i17:Int) (s:Unit) : Option (Unit ⊕ Unit) :=
(ix x14.2 i17).bind fun x22 =>
bif decide (60 < (List.length x22.1 : Int)) then
(some (.inr ()))
else
(some (.inl ()))
def f6_b0 (p0:List (ZS)) (i1:Int) (s:Unit) : Option (Unit ⊕ Unit) :=
(ix p0 i1).bind fun x14 =>
bif (decide (60 < (List.length x14.1 : Int)))||(decide (5 < (List.length x14.2 : Int))) then
(some (.inr ()))
else
((rng (f6_b2 x14) (Int.toNat (List.length x14.2 : Int)) 0 ()).bind fun o19=>match o19 with
| .inl ()=>(some (.inl ()))
| .inr ()=>(some (.inr ())))
def f6 (p0:List (ZS)) (p1:List (ZA)) : Option (Bool) :=
(rng (f6_b0 p0) (Int.toNat (List.length p0 : Int)) 0 ()).bind fun o3=>match o3 with
| .inl ()=>((rng (f6_b1 p1) (Int.toNat (List.length p1 : Int)) 0 ()).bind fun o7=>match o7 with
| .inl ()=>(some ((decide ((List.length p0 : Int)≤25))&&(decide ((List.length p1 : Int)≤50))))
| .inr ()=>(some false))
| .inr ()=>(some false)
def f22  : Option ((List (ZS))) :=
some [(([105,110] : Str),[(([119,104,111,108,101] : Str),0,0,1,1,1),(([112,97,114,116] : Str),0,0,3,3,3)])]
def f73_b0 (p0:Str) (i1:Int) (s:Unit) : Option (Unit ⊕ Unit) :=
(ix p0 i1).bind fun x7 =>
bif (((decide (((UInt8.toNat x7 : Nat) : Int) < 97))||(decide (122 < ((UInt8.toNat x7 : Nat) : Int))))&&((decide (((UInt8.toNat x7 : Nat) : Int) < 65))||(decide (90 < ((UInt8.toNat x7 : Nat) : Int)))))&&((decide (i1=0))||((!decide (((UInt8.toNat x7 : Nat) : Int)=95))&&((decide (((UInt8.toNat x7 : Nat) : Int) < 48))||(decide (57 < ((UInt8.toNat x7 : Nat) : Int)))))) then
(some (.inr ()))
else
(some (.inl ()))
def f73 (p0:Str) : Option (Bool) :=
bif decide ((List.length p0 : Int)≤9223372036854775807) then
(rng (f73_b0 p0) (Int.toNat (List.length p0 : Int)) 0 ()).bind fun o4=>match o4 with
| .inl ()=>(some ((!decide (p0=([] : Str)))&&(decide ((List.length p0 : Int)≤32))))
| .inr ()=>(some false)
else none
def f76_b0 (p0:ZO) (i1:Int) (s:Unit) : Option (Unit ⊕ Unit) :=
(ix ([p0.2.2.2.1,p0.2.2.2.2.1,p0.2.2.2.2.2] : List Int) i1).bind fun x8 =>
bif (decide (x8 < 1))||(decide (3 < x8)) then
(some (.inr ()))
else
(some (.inl ()))
def f76 (p0:ZO) : Option (Bool) :=
(rng (f76_b0 p0) (Int.toNat 3) 0 ()).bind fun o3=>match o3 with
| .inl ()=>((f73 p0.1).bind fun x5 =>
some (((x5&&((decide (p0.2.1=0))||(decide (p0.2.1=1))))&&(decide (0≤p0.2.2.1)))&&(decide (p0.2.2.1≤100))))
| .inr ()=>(some false)
def f78 (p0:ZO) (p1:ZO) : Option (Bool) :=
some (decide (p0.1=p1.1))
def f112_b0 (p0:List (ZO)) (q1:(ZO)→Option Bool) (i1:Int) (s:Unit) : Option (Unit ⊕ Int) :=
(ix p0 i1).bind fun x7 =>
(q1 x7).bind fun x9 =>
bif x9 then
(some (.inr i1))
else
(some (.inl ()))
def f112 (p0:List (ZO)) (q1:(ZO)→Option Bool) : Option (Int) :=
(rng (f112_b0 p0 q1) (Int.toNat (List.length p0 : Int)) 0 ()).bind fun o4=>match o4 with
| .inl ()=>(some (-1))
| .inr s3=>(some s3)
def f77 (p0:List (ZO)) (q1:(ZO)→Option Bool) : Option (Bool) :=
(f112 p0 q1).bind fun x1 =>
some (decide (0≤x1))
def f25_b0 (p0:ZS) (i1:Int) (s:Unit) : Option (Unit ⊕ Unit) :=
(ix p0.2 i1).bind fun x8 =>
(f76 x8).bind fun x10 =>
bif (!(!(!x10))||(slOk 0 i1 (List.length p0.2))) then
bif (!(!(!x10))||Option.isSome (f77 ((p0.2.take (Int.toNat i1)).drop (Int.toNat 0)) (fun y1=>f78 y1 x8))) then
bif (!x10)||((f77 ((p0.2.take (Int.toNat i1)).drop (Int.toNat 0)) (fun y1=>f78 y1 x8)).getD default) then
(some (.inr ()))
else
(some (.inl ()))
else none
else none
def f25 (p0:ZS) : Option (Bool) :=
(rng (f25_b0 p0) (Int.toNat (List.length p0.2 : Int)) 0 ()).bind fun o3=>match o3 with
| .inl ()=>((f73 p0.1).bind fun x5 =>
some ((x5&&(decide (2≤(List.length p0.2 : Int))))&&(decide ((List.length p0.2 : Int)≤3))))
| .inr ()=>(some false)
def f27 (p0:ZS) (p1:ZS) : Option (Bool) :=
some (decide (p0.1=p1.1))
def f79_b0 (p0:List (ZS)) (q1:(ZS)→Option Bool) (i1:Int) (s:Unit) : Option (Unit ⊕ Int) :=
(ix p0 i1).bind fun x7 =>
(q1 x7).bind fun x9 =>
bif x9 then
(some (.inr i1))
else
(some (.inl ()))
def f79 (p0:List (ZS)) (q1:(ZS)→Option Bool) : Option (Int) :=
(rng (f79_b0 p0 q1) (Int.toNat (List.length p0 : Int)) 0 ()).bind fun o4=>match o4 with
| .inl ()=>(some (-1))
| .inr s3=>(some s3)
def f26 (p0:List (ZS)) (q1:(ZS)→Option Bool) : Option (Bool) :=
(f79 p0 q1).bind fun x1 =>
some (decide (0≤x1))
def f28 (p0:List (ZO)) : Option ((List (ZO))) :=
bif apOk 56 (List.length ([] : List (ZO))+List.length p0) then
some (([] : List (ZO))++p0)
else none
def f8_b1 (p0:List (ZS)) (i7:Int) (s9:(List (ZS))) : Option (((List (ZS))) ⊕ Unit) :=
(ix p0 i7).bind fun x15 =>
(f28 x15.2).bind fun x17 =>
bif apOk 40 (List.length s9+List.length [(x15.1,x17)]) then
some (.inl (s9++[(x15.1,x17)]))
else none
def f8_b0 (p0:List (ZS)) (i2:Int) (s:Unit) : Option (Unit ⊕ Unit) :=
(ix p0 i2).bind fun x21 =>
(f25 x21).bind fun x23 =>
bif (!(!(!x23))||(slOk 0 i2 (List.length p0))) then
bif (!(!(!x23))||Option.isSome (f26 ((p0.take (Int.toNat i2)).drop (Int.toNat 0)) (fun y1=>f27 y1 x21))) then
bif (!x23)||((f26 ((p0.take (Int.toNat i2)).drop (Int.toNat 0)) (fun y1=>f27 y1 x21)).getD default) then
(some (.inr ()))
else
(some (.inl ()))
else none
else none
def f8 (p0:List (ZS)) : Option (Int×(Option (ZW))) :=
(rng (f8_b0 p0) (Int.toNat (List.length p0 : Int)) 0 ()).bind fun o4=>match o4 with
| .inl ()=>(bif decide (20 < (List.length p0 : Int)) then
(some (1,none))
else
((rng (f8_b1 p0) (Int.toNat (List.length p0 : Int)) 0 ([] : List (ZS))).bind fun o12=>match o12 with
| .inl s9=>(some (0,(some (s9,[],[],1,1))))
| .inr _=>none))
| .inr ()=>(some (1,none))
def f72 (p0:Int) : Option (Bool) :=
some ((decide (0≤p0))&&(decide (p0≤1000)))
def f23 (p0_0:ZW) (p1:Int) (p2:Str) : Option (Int×Int×(ZW)) :=
bif false||(decide (1000 < (List.length p2 : Int))) then
(some (0,1,p0_0))
else
((f72 p1).bind fun x3 =>
bif !x3 then
(some (0,7,p0_0))
else
(bif decide ((List.length p0_0.2.1 : Int)=500) then
(some (0,4,p0_0))
else
(some (p0_0.2.2.2.1,0,(p0_0.1,(mset p0_0.2.1 p0_0.2.2.2.1 (p0_0.2.2.2.1,p1,p2)),p0_0.2.2.1,(w64 (p0_0.2.2.2.1+1)),p0_0.2.2.2.2)))))
def f110_b0 (p0:List Int) (q1:Int→Option Bool) (i1:Int) (s:Unit) : Option (Unit ⊕ Int) :=
(ix p0 i1).bind fun x7 =>
(q1 x7).bind fun x9 =>
bif x9 then
(some (.inr i1))
else
(some (.inl ()))
def f110 (p0:List Int) (q1:Int→Option Bool) : Option (Int) :=
(rng (f110_b0 p0 q1) (Int.toNat (List.length p0 : Int)) 0 ()).bind fun o4=>match o4 with
| .inl ()=>(some (-1))
| .inr s3=>(some s3)
def f66 (p0:List Int) (q1:Int→Option Bool) : Option (Bool) :=
(f110 p0 q1).bind fun x1 =>
some (decide (0≤x1))
def f74 (p0:Int) : Option (Bool) :=
some (decide (p0 < 0))
def f111 (p0:ZS) (p1:Str) : Option (Bool) :=
some (decide (p0.1=p1))
def f75 (p0:ZW) (p1:Str) : Option ((Option (ZS))) :=
(f79 p0.1 (fun y1=>f111 y1 p1)).bind fun x1 =>
bif decide (x1 < 0) then
(some none)
else
((ix p0.1 x1).bind fun x4 =>
some (some x4))
def f75o (p0_0:ZW) (p1:Str) : Option ((Option (ZS))) :=
(f79 p0_0.1 (fun y1=>f111 y1 p1)).bind fun x1 =>
bif decide (x1 < 0) then
(some none)
else
((ix p0_0.1 x1).bind fun x4 =>
some (some x4))
def f97 (p0:Int) : Option (Bool) :=
some (decide (p0 < 0))
def f50_b0 (p0:ZW) (p1:List Int) (i4:Int) (s:Unit) : Option (Unit ⊕ Unit) :=
(ix p1 i4).bind fun x9 =>
bif !((mget p0.2.1 x9).isSome) then
(some (.inr ()))
else
(some (.inl ()))
def f50 (p0:ZW) (p1:List Int) : Option (Int) :=
(f66 p1 (fun y1=>f97 y1)).bind fun x1 =>
bif x1 then
(some 7)
else
((rng (f50_b0 p0 p1) (Int.toNat (List.length p1 : Int)) 0 ()).bind fun o6=>match o6 with
| .inl ()=>(some 0)
| .inr ()=>(some 8))
def f60 (p0:List Int) : Option (List Int) :=
bif apOk 8 (List.length ([] : List Int)+List.length p0) then
some (([] : List Int)++p0)
else none
def f62 (p0_0:ZW) (p1:Str) (p2:List Int) : Option (Int×(ZW)) :=
(f60 p2).bind fun x2 =>
some (p0_0.2.2.2.2,(p0_0.1,p0_0.2.1,(mset p0_0.2.2.1 p0_0.2.2.2.2 (p0_0.2.2.2.2,p1,x2)),p0_0.2.2.2.1,(w64 (p0_0.2.2.2.2+1))))
def f109_b0 {σ R:Type}(q:σ→(Int×(Int×Str×List Int))→Option (σ ⊕ R)) (p1:ZW) (p2:Str) (p3:Int) (p4:Int) (x3:List Int) (i5:Int) (s7:σ) : Option (σ ⊕ R) :=
(ix x3 i5).bind fun x14 =>
bif (!(decide ((((((mget p1.2.2.1 x14).getD (0,([] : Str),[]))).2).1)=p2))||Option.isSome (ix (((((mget p1.2.2.1 x14).getD (0,([] : Str),[]))).2).2) p3)) then
bif (decide ((((((mget p1.2.2.1 x14).getD (0,([] : Str),[]))).2).1)=p2))&&(decide (((ix (((((mget p1.2.2.1 x14).getD (0,([] : Str),[]))).2).2) p3).getD default)=p4)) then
((q s7 (x14,((((mget p1.2.2.1 x14).getD (0,([] : Str),[]))).1,((((mget p1.2.2.1 x14).getD (0,([] : Str),[]))).2).1,((((mget p1.2.2.1 x14).getD (0,([] : Str),[]))).2).2))).bind fun o18=>match o18 with
| .inl s20=>(some (.inl s20))
| .inr r21=>(some (.inr r21)))
else
(some (.inl s7))
else none
def f109 {σ R:Type}(q:σ→(Int×(Int×Str×List Int))→Option (σ ⊕ R)) (s0:σ) (p1:ZW) (p2:Str) (p3:Int) (p4:Int) : Option (σ ⊕ R) :=
(zBs p1.2.2.1).bind fun x1 =>
(skeys x1).bind fun x3 =>
(rng (f109_b0 q p1 p2 p3 p4 x3) (Int.toNat (List.length x3 : Int)) 0 s0).bind fun o11=>match o11 with
| .inl s7=>(some (.inl s7))
| .inr s10=>(some (.inr s10))
def f65 (p0:ZW) (p1:Int) (p2:Str) (p3:Int) : Option (Unit) :=
some ()
def f105_b0 (s5:Int) (x:Int×(Int×Str×List Int)) : Option (Int ⊕ Unit) :=
match x with
| (y11,y12)=>(some (.inl (w64 (s5+1))))
def f105 (p0:ZW) (p1:Int) (p2:Str) (p3:Int) : Option (Int) :=
(f65 p0 p1 p2 p3).bind fun x1 =>
(f109 f105_b0 0 p0 p2 p3 p1).bind fun o9=>match o9 with
| .inl s5=>(some s5)
| .inr _=>none
def f63_b0 (p0:ZW) (p1:Int×Str×List Int) (x3:ZS) (i5:Int) (s:Unit) : Option (Unit ⊕ Unit) :=
(ix x3.2 i5).bind fun x10 =>
bif (!(decide (0 < x10.2.2.1))||Option.isSome (ix p1.2.2 i5)) then
bif (!(decide (0 < x10.2.2.1))||Option.isSome (f105 p0 ((ix p1.2.2 i5).getD default) p1.2.1 i5)) then
bif (decide (0 < x10.2.2.1))&&(decide (x10.2.2.1 < ((f105 p0 ((ix p1.2.2 i5).getD default) p1.2.1 i5).getD default))) then
(some (.inr ()))
else
(some (.inl ()))
else none
else none
def f63 (p0:ZW) (p1:Int×Str×List Int) : Option (Bool) :=
(f75 p0 p1.2.1).bind fun x1 =>
(x1).bind fun x3 =>
(rng (f63_b0 p0 p1 x3) (Int.toNat (List.length x3.2 : Int)) 0 ()).bind fun o7=>match o7 with
| .inl ()=>(some false)
| .inr ()=>(some true)
def f24 (p0_0:ZW) (p1:Str) (p2:List Int) : Option (Int×Int×(ZW)) :=
bif (!(!false)||Option.isSome (f73 p1)) then
bif false||(!((f73 p1).getD default)) then
(some (0,1,p0_0))
else
((f66 p2 (fun y1=>f74 y1)).bind fun x4 =>
bif x4 then
(some (0,7,p0_0))
else
((f75o p0_0 p1).bind fun x7 =>
bif (Option.isNone x7) then
(some (0,5,p0_0))
else
((f50 p0_0 p2).bind fun x10 =>
bif !decide (x10=0) then
(some (0,x10,p0_0))
else
((x7).bind fun x13 =>
bif !decide ((List.length p2 : Int)=(List.length x13.2 : Int)) then
(some (0,11,p0_0))
else
((f62 p0_0 p1 p2).bind fun x16 =>
(((f63 x16.2 ((((mget x16.2.2.2.1 x16.1).getD (0,([] : Str),[]))).1,((((mget x16.2.2.2.1 x16.1).getD (0,([] : Str),[]))).2).1,((((mget x16.2.2.2.1 x16.1).getD (0,([] : Str),[]))).2).2)).bind fun x21 =>
bif x21 then
(some (.inl 9))
else
(bif decide (1000 < (List.length x16.2.2.2.1 : Int)) then
(some (.inl 4))
else
(some (.inl 0)))) : Option (Int ⊕ Unit)).bind fun o19=>match o19 with
| .inl s18=>(bif !decide (s18=0) then
(some (0,s18,(x16.2.1,x16.2.2.1,(mdel x16.2.2.2.1 x16.1),x16.2.2.2.2.1,(w64 (x16.2.2.2.2.2 - 1)))))
else
(some (x16.1,0,x16.2)))
| .inr _=>none)))))
else none
def f58 (p0:ZW) (p1:Int) (p2:Int) : Option (Int) :=
(f72 p2).bind fun x1 =>
bif !x1 then
(some 7)
else
((f50 p0 [p1]).bind fun x4 =>
some x4)
def f94 (p0:ZO) : Option (Int) :=
some p0.2.2.2.1
def f95 (p0:ZO) : Option (Int) :=
some p0.2.2.2.2.1
def f96 (p0:ZO) : Option (Int) :=
some p0.2.2.2.2.2
def fdyn (e:Nat) (p0:ZO) : Option Int :=
 if e=94 then f94 p0 else if e=95 then f95 p0 else if e=96 then f96 p0 else none
def f49  : Option (Unit) :=
some ()
def f13 (p0:ZW) : Option (List Int) :=
(zBs p0.2.2.1).bind fun x2 =>
(skeys x2).bind fun x4 =>
some x4
def f98_b2 (p2:ZW) (p3:Nat) (rec:Int→(List (Int×Bool))→(List (Int×Bool))→(List (Int×Bool))→(ZW)→Nat→Option ((List (Int×Bool))×(List (Int×Bool))×(List (Int×Bool)))) (x24:Int) (i56:Int) (s:(List (Int×Bool))×(List (Int×Bool))×(List (Int×Bool))) : Option (((List (Int×Bool))×(List (Int×Bool))×(List (Int×Bool))) ⊕ Unit) :=
match s with
| (s58,s59,s60)=>((ix (((((mget p2.2.2.1 x24).getD (0,([] : Str),[]))).2).2) i56).bind fun x68 =>
(rec x68 s58 s59 s60 p2 p3).bind fun x70 =>
some (.inl (x70.1,x70.2.1,x70.2.2)))
def f98_b1 (p0:Int) (p2:ZW) (p3:Nat) (rec:Int→(List (Int×Bool))→(List (Int×Bool))→(List (Int×Bool))→(ZW)→Nat→Option ((List (Int×Bool))×(List (Int×Bool))×(List (Int×Bool)))) (s9:List (Int×Bool)) (s11:List (Int×Bool)) (x24:Int) (x26:(Option (ZS))) (i28:Int) (s30:(List (Int×Bool))) : Option (((List (Int×Bool))) ⊕ ((List (Int×Bool))×(List (Int×Bool))×(List (Int×Bool)))) :=
(((ix (((((mget p2.2.2.1 x24).getD (0,([] : Str),[]))).2).2) i28).bind fun x45 =>
bif !decide (x45=p0) then
(some (.inl s30))
else
((x26).bind fun x48 =>
(ix x48.2 i28).bind fun x50 =>
(fdyn p3 x50).bind fun x52 =>
bif decide (x52=3) then
(some (.inl s30))
else
(bif decide (x52=1) then
((rng (f98_b2 p2 p3 rec x24) (Int.toNat (List.length (((((mget p2.2.2.1 x24).getD (0,([] : Str),[]))).2).2) : Int)) 0 (s9,(mset s30 x24 true),s11)).bind fun o65=>match o65 with
| .inl (s58,s59,s60)=>(some (.inr (s58,s59,s60)))
| .inr _=>none)
else
(some (.inl (mset s30 x24 true)))))) : Option (((List (Int×Bool))) ⊕ ((List (Int×Bool))×(List (Int×Bool))×(List (Int×Bool))))).bind fun o43=>match o43 with
| .inl s39=>(some (.inl s39))
| .inr (s40,s41,s42)=>(some (.inr (s40,s41,s42)))
def f98_b0 (p0:Int) (p2:ZW) (p3:Nat) (rec:Int→(List (Int×Bool))→(List (Int×Bool))→(List (Int×Bool))→(ZW)→Nat→Option ((List (Int×Bool))×(List (Int×Bool))×(List (Int×Bool)))) (x5:List Int) (i7:Int) (s:(List (Int×Bool))×(List (Int×Bool))×(List (Int×Bool))) : Option (((List (Int×Bool))×(List (Int×Bool))×(List (Int×Bool))) ⊕ Unit) :=
match s with
| (s9,s10,s11)=>((((ix x5 i7).bind fun x24 =>
(f75 p2 (((((mget p2.2.2.1 x24).getD (0,([] : Str),[]))).2).1)).bind fun x26 =>
(rng (f98_b1 p0 p2 p3 rec s9 s11 x24 x26) (Int.toNat (List.length (((((mget p2.2.2.1 x24).getD (0,([] : Str),[]))).2).2) : Int)) 0 s10).bind fun o36=>match o36 with
| .inl s30=>(some (.inl (s9,s30,s11)))
| .inr (s33,s34,s35)=>(some (.inl (s33,s34,s35)))) : Option (((List (Int×Bool))×(List (Int×Bool))×(List (Int×Bool))) ⊕ Unit)).bind fun o22=>match o22 with
| .inl (s19,s20,s21)=>(some (.inl (s19,s20,s21)))
| .inr _=>none)
def f98_r (rec:Int→(List (Int×Bool))→(List (Int×Bool))→(List (Int×Bool))→(ZW)→Nat→Option ((List (Int×Bool))×(List (Int×Bool))×(List (Int×Bool)))) (p0:Int) (p1_0:List (Int×Bool)) (p1_1:List (Int×Bool)) (p1_2:List (Int×Bool)) (p2:ZW) (p3:Nat) : Option ((List (Int×Bool))×(List (Int×Bool))×(List (Int×Bool))) :=
bif ((mget p1_0 p0).getD false) then
(some (p1_0,p1_1,p1_2))
else
((f13 p2).bind fun x5 =>
(rng (f98_b0 p0 p2 p3 rec x5) (Int.toNat (List.length x5 : Int)) 0 ((mset p1_0 p0 true),p1_1,p1_2)).bind fun o16=>match o16 with
| .inl (s9,s10,s11)=>(some (s9,s10,s11))
| .inr _=>none)
def f98 : Nat→Int→(List (Int×Bool))→(List (Int×Bool))→(List (Int×Bool))→(ZW)→Nat→Option ((List (Int×Bool))×(List (Int×Bool))×(List (Int×Bool)))
 | 0,_,_,_,_,_,_=>none
 | n+1,p0,p1_0,p1_1,p1_2,p2,p3=>f98_r (f98 n) p0 p1_0 p1_1 p1_2 p2 p3
def f51_b1 (p0:ZW) (x8:(List (Int×Bool))×(List (Int×Bool))×(List (Int×Bool))) (p19:Int×Bool) (i22:Int) (s24:(List (Int×Bool))) : Option (((List (Int×Bool))) ⊕ Unit) :=
(((ix (((((mget p0.2.2.1 p19.1).getD (0,([] : Str),[]))).2).2) i22).bind fun x33 =>
bif !((mget x8.1 x33).getD false) then
(some (.inl (mset s24 x33 true)))
else
(some (.inl s24))) : Option (((List (Int×Bool))) ⊕ Unit)).bind fun o31=>match o31 with
| .inl s30=>(some (.inl s30))
| .inr _=>none
def f51_m0 (p0:ZW) (x8:(List (Int×Bool))×(List (Int×Bool))×(List (Int×Bool))) (s14:(List (Int×Bool))) (p19:Int×Bool) : Option (((List (Int×Bool))) ⊕ Unit) :=
(rng (f51_b1 p0 x8 p19) (Int.toNat (List.length (((((mget p0.2.2.1 p19.1).getD (0,([] : Str),[]))).2).2) : Int)) 0 s14).bind fun o27=>match o27 with
| .inl s24=>(some (.inl s24))
| .inr _=>none
def f51_m0_q (a b:((List (Int×Bool))) ⊕ Unit) : Prop :=
 match a,b with
 | .inl s14z,.inl s14=>s14z.Perm s14
 | .inr a,.inr b=>b=a
 | _,_=>False
def f51 (p0:ZW) (p1:Int) (p2:Int) : Option ((List (Int×Bool))×(List (Int×Bool))×(List (Int×Bool))) :=
(f49).bind fun x4 =>
(ix ([94,95,96] : List Nat) (w64 (p2 - 1))).bind fun x6 =>
(f98 10000 p1 [] [] [] p0 x6).bind fun x8 =>
(zBu (f51_m0 p0 x8) x8.2.2 x8.2.1).bind fun o16=>match o16 with
| .inl s14=>(some (x8.1,x8.2.1,s14))
| .inr _=>none
def f59 (p0_0:ZW) : Option ((ZW)) :=
(zBs p0_0.2.1).bind fun x2 =>
(zBs p0_0.2.2.1).bind fun x4 =>
some (p0_0.1,x2,x4,p0_0.2.2.2.1,p0_0.2.2.2.2)
def f52 (p0:List (Int×Bool)) : Option (List Int) :=
(zBs p0).bind fun x2 =>
(skeys x2).bind fun x4 =>
some x4
def f61_b0 (p0:List Int) (i1:Int) (s:Unit) : Option (Unit ⊕ Int) :=
(ix p0 i1).bind fun x7 =>
bif !decide (x7=0) then
(some (.inr x7))
else
(some (.inl ()))
def f61 (p0:List Int) : Option (Int) :=
(rng (f61_b0 p0) (Int.toNat (List.length p0 : Int)) 0 ()).bind fun o4=>match o4 with
| .inl ()=>(some 0)
| .inr s3=>(some s3)
def f18_b2 (s26:ZW) (s27:List (Int×Int)) (i33:Int) (s:Unit) : Option (Unit ⊕ Unit) :=
(ix s27 i33).bind fun x39 =>
(f63 s26 ((((mget s26.2.2.1 x39.2).getD (0,([] : Str),[]))).1,((((mget s26.2.2.1 x39.2).getD (0,([] : Str),[]))).2).1,((((mget s26.2.2.1 x39.2).getD (0,([] : Str),[]))).2).2)).bind fun x41 =>
bif x41 then
(some (.inr ()))
else
(some (.inl ()))
def f18_b3 (s14:List (Int×Int)) (i49:Int) (s51:List Int) : Option ((List Int) ⊕ Unit) :=
(ix s51 i49).bind fun x60 =>
(f61 [((mget s14 x60).getD 0),x60]).bind fun x62 =>
some (.inl (s51.set (Int.toNat i49) x62))
def f18_b1 (s14:List (Int×Int)) (x22:List Int) (i24:Int) (s:(ZW)×(List (Int×Int))) : Option (((ZW)×(List (Int×Int))) ⊕ Unit) :=
match s with
| (s26,s27)=>((ix x22 i24).bind fun x45 =>
(f60 (((((mget s26.2.2.1 x45).getD (0,([] : Str),[]))).2).2)).bind fun x47 =>
(rng (f18_b3 s14) (Int.toNat (List.length x47 : Int)) 0 x47).bind fun o54=>match o54 with
| .inl s51=>((f62 s26 (((((mget s26.2.2.1 x45).getD (0,([] : Str),[]))).2).1) s51).bind fun x56 =>
bif apOk 16 (List.length s27+List.length [(x45,x56.1)]) then
some (.inl (x56.2,(s27++[(x45,x56.1)])))
else none)
| .inr _=>none)
def f18_b0 (p2:Int) (x9:List Int) (i11:Int) (s:(ZW)×(List (Int×Int))×(List (Int×Int))) : Option (((ZW)×(List (Int×Int))×(List (Int×Int))) ⊕ Unit) :=
match s with
| (s13,s14,s15)=>((ix x9 i11).bind fun x65 =>
bif decide ((List.length s13.2.1 : Int)=500) then
(some (.inr ()))
else
((f23 s13 p2 (((((mget s13.2.1 x65).getD (0,0,([] : Str)))).2).2)).bind fun x68 =>
bif apOk 16 (List.length s15+List.length [(x65,((mget (mset s14 x65 x68.1) x65).getD 0))]) then
some (.inl (x68.2.2,(mset s14 x65 x68.1),(s15++[(x65,((mget (mset s14 x65 x68.1) x65).getD 0))])))
else none))
def f18 (p0_0:ZW) (p1:Int) (p2:Int) : Option ((List (Int×Int))×(List (Int×Int))×Int×(ZW)) :=
(f58 p0_0 p1 p2).bind fun x2 =>
bif !decide (x2=0) then
(some (([] : List (Int×Int)),([] : List (Int×Int)),x2,p0_0))
else
((f51 p0_0 p1 1).bind fun x5 =>
(f59 p0_0).bind fun x7 =>
(f52 x5.1).bind fun x9 =>
(rng (f18_b0 p2 x9) (Int.toNat (List.length x9 : Int)) 0 (x7,[],([] : List (Int×Int)))).bind fun o20=>match o20 with
| .inl (s13,s14,s15)=>((f52 x5.2.1).bind fun x22 =>
(rng (f18_b1 s14 x22) (Int.toNat (List.length x22 : Int)) 0 (s13,([] : List (Int×Int)))).bind fun o31=>match o31 with
| .inl (s26,s27)=>((rng (f18_b2 s26 s27) (Int.toNat (List.length s27 : Int)) 0 ()).bind fun o35=>match o35 with
| .inl ()=>(bif decide (1000 < (List.length s26.2.2.1 : Int)) then
(some (([] : List (Int×Int)),([] : List (Int×Int)),4,p0_0))
else
(some (s15,s27,0,s26)))
| .inr ()=>(some (([] : List (Int×Int)),([] : List (Int×Int)),9,p0_0)))
| .inr _=>none)
| .inr ()=>(some (([] : List (Int×Int)),([] : List (Int×Int)),4,p0_0)))
def f7_b0 (i6:Int) (s8:(Option (ZW))) : Option (((Option (ZW))) ⊕ Unit) :=
(s8).bind fun x24 =>
(f23 x24 0 ([] : Str)).bind fun x26 =>
some (.inl (some x26.2.2))
def f7  : Option (Bool) :=
(f22).bind fun x1 =>
(f8 x1).bind fun x3 =>
bif (!decide (x3.1=0))||(Option.isNone x3.2) then
(some false)
else
((rng f7_b0 (Int.toNat 3) 0 x3.2).bind fun o11=>match o11 with
| .inl s8=>((s8).bind fun x13 =>
(f24 x13 ([105,110] : Str) [1,2]).bind fun x15 =>
(f24 x15.2.2 ([105,110] : Str) [1,3]).bind fun x17 =>
(f18 x17.2.2 1 5).bind fun x19 =>
(f18 x19.2.2.2 2 5).bind fun x21 =>
some ((((((decide (x19.2.2.1=0))&&(decide ((List.length x19.1 : Int)=3)))&&(decide ((List.length x19.2.1 : Int)=2)))&&(decide (x21.2.2.1=0)))&&(decide ((List.length x21.1 : Int)=1)))&&(decide ((List.length x21.2.1 : Int)=0))))
| .inr _=>none)
def f80_b0 (p0:Str) (i1:Int) (s:Unit) : Option (Unit ⊕ Unit) :=
(ix p0 i1).bind fun x7 =>
bif (!(decide (97≤((UInt8.toNat x7 : Nat) : Int)))||Option.isSome (ix p0 i1)) then
bif (!(!((decide (97≤((UInt8.toNat x7 : Nat) : Int)))&&(decide (((UInt8.toNat ((ix p0 i1).getD default) : Nat) : Int)≤122))))||Option.isSome (ix p0 i1)) then
bif (!((!((decide (97≤((UInt8.toNat x7 : Nat) : Int)))&&(decide (((UInt8.toNat ((ix p0 i1).getD default) : Nat) : Int)≤122))))&&(decide (65≤((UInt8.toNat ((ix p0 i1).getD default) : Nat) : Int))))||Option.isSome (ix p0 i1)) then
bif (!((!(((decide (97≤((UInt8.toNat x7 : Nat) : Int)))&&(decide (((UInt8.toNat ((ix p0 i1).getD default) : Nat) : Int)≤122)))||((decide (65≤((UInt8.toNat ((ix p0 i1).getD default) : Nat) : Int)))&&(decide (((UInt8.toNat ((ix p0 i1).getD default) : Nat) : Int)≤90)))))&&(!(decide (i1=0))))||Option.isSome (ix p0 i1)) then
bif (!(((!(((decide (97≤((UInt8.toNat x7 : Nat) : Int)))&&(decide (((UInt8.toNat ((ix p0 i1).getD default) : Nat) : Int)≤122)))||((decide (65≤((UInt8.toNat ((ix p0 i1).getD default) : Nat) : Int)))&&(decide (((UInt8.toNat ((ix p0 i1).getD default) : Nat) : Int)≤90)))))&&(!(decide (i1=0))))&&(!(decide (((UInt8.toNat ((ix p0 i1).getD default) : Nat) : Int) < 48))))||Option.isSome (ix p0 i1)) then
bif (!(((!(((decide (97≤((UInt8.toNat x7 : Nat) : Int)))&&(decide (((UInt8.toNat ((ix p0 i1).getD default) : Nat) : Int)≤122)))||((decide (65≤((UInt8.toNat ((ix p0 i1).getD default) : Nat) : Int)))&&(decide (((UInt8.toNat ((ix p0 i1).getD default) : Nat) : Int)≤90)))))&&(!(decide (i1=0))))&&((decide (((UInt8.toNat ((ix p0 i1).getD default) : Nat) : Int) < 48))||(decide (57 < ((UInt8.toNat ((ix p0 i1).getD default) : Nat) : Int)))))||Option.isSome (ix p0 i1)) then
bif (!(((decide (97≤((UInt8.toNat x7 : Nat) : Int)))&&(decide (((UInt8.toNat ((ix p0 i1).getD default) : Nat) : Int)≤122)))||((decide (65≤((UInt8.toNat ((ix p0 i1).getD default) : Nat) : Int)))&&(decide (((UInt8.toNat ((ix p0 i1).getD default) : Nat) : Int)≤90)))))&&((decide (i1=0))||(((decide (((UInt8.toNat ((ix p0 i1).getD default) : Nat) : Int) < 48))||(decide (57 < ((UInt8.toNat ((ix p0 i1).getD default) : Nat) : Int))))&&(!decide (((UInt8.toNat ((ix p0 i1).getD default) : Nat) : Int)=95)))) then
(some (.inr ()))
else
(some (.inl ()))
else none
else none
else none
else none
else none
else none
def f80 (p0:Str) : Option (Bool) :=
bif decide ((List.length p0 : Int)≤9223372036854775807) then
(rng (f80_b0 p0) (Int.toNat (List.length p0 : Int)) 0 ()).bind fun o4=>match o4 with
| .inl ()=>(some ((!decide (p0=([] : Str)))&&(decide ((List.length p0 : Int)≤32))))
| .inr ()=>(some false)
else none
def f29_b2 (x9:ZO) (i16:Int) (s:Unit) : Option (Unit ⊕ Unit) :=
(ix [x9.2.2.2.1,x9.2.2.2.2.1,x9.2.2.2.2.2] i16).bind fun x24 =>
bif (decide (x24 < 1))||(decide (3 < x24)) then
(some (.inr ()))
else
(some (.inl ()))
def f29_b1 (p0:ZS) (i4:Int) (x9:ZO) (i12:Int) (s:Unit) : Option (Unit ⊕ Unit) :=
(ix ((p0.2.take (Int.toNat i4)).drop (Int.toNat 0)) i12).bind fun x28 =>
bif decide (x28.1=x9.1) then
(some (.inr ()))
else
(some (.inl ()))
def f29_b0 (p0:ZS) (i4:Int) (s:Unit) : Option (Unit ⊕ Unit) :=
(ix p0.2 i4).bind fun x9 =>
bif slOk 0 i4 (List.length p0.2) then
(rng (f29_b1 p0 i4 x9) (Int.toNat (List.length ((p0.2.take (Int.toNat i4)).drop (Int.toNat 0)) : Int)) 0 ()).bind fun o14=>match o14 with
| .inl ()=>((rng (f29_b2 x9) (Int.toNat (List.length [x9.2.2.2.1,x9.2.2.2.2.1,x9.2.2.2.2.2] : Int)) 0 ()).bind fun o18=>match o18 with
| .inl ()=>((f80 x9.1).bind fun x20 =>
bif ((((!x20)||(decide (x9.2.1 < 0)))||(decide (1 < x9.2.1)))||(decide (x9.2.2.1 < 0)))||(decide (100 < x9.2.2.1)) then
(some (.inr ()))
else
(some (.inl ())))
| .inr ()=>(some (.inr ())))
| .inr ()=>(some (.inr ()))
else none
def f29 (p0:ZS) : Option (Bool) :=
(f80 p0.1).bind fun x1 =>
bif ((!x1)||(decide ((List.length p0.2 : Int) < 2)))||(decide (3 < (List.length p0.2 : Int))) then
(some false)
else
((rng (f29_b0 p0) (Int.toNat (List.length p0.2 : Int)) 0 ()).bind fun o6=>match o6 with
| .inl ()=>(some true)
| .inr ()=>(some false))
def f9_b1 (p0:List (ZS)) (i2:Int) (x8:ZS) (i14:Int) (s:Unit) : Option (Unit ⊕ Unit) :=
(ix ((p0.take (Int.toNat i2)).drop (Int.toNat 0)) i14).bind fun x19 =>
bif decide (x19.1=x8.1) then
(some (.inr ()))
else
(some (.inl ()))
def f9_b0 (p0:List (ZS)) (i2:Int) (s:Unit) : Option (Unit ⊕ Unit) :=
(ix p0 i2).bind fun x8 =>
(f29 x8).bind fun x10 =>
bif !x10 then
(some (.inr ()))
else
(bif slOk 0 i2 (List.length p0) then
(rng (f9_b1 p0 i2 x8) (Int.toNat (List.length ((p0.take (Int.toNat i2)).drop (Int.toNat 0)) : Int)) 0 ()).bind fun o16=>match o16 with
| .inl ()=>(some (.inl ()))
| .inr ()=>(some (.inr ()))
else none)
def f9 (p0:List (ZS)) : Option (Int×(Option (ZR))) :=
(rng (f9_b0 p0) (Int.toNat (List.length p0 : Int)) 0 ()).bind fun o4=>match o4 with
| .inl ()=>(bif decide (20 < (List.length p0 : Int)) then
(some (1,none))
else
(some (0,(some (p0,([] : List (Int×Int×Str)),([] : List (Int×Str×List Int)),1,1)))))
| .inr ()=>(some (1,none))
def f30_b0 (p0:ZR) (i2:Int) (s4:List Int) : Option ((List Int) ⊕ Unit) :=
(ix p0.2.1 i2).bind fun x10 =>
bif apOk 8 (List.length s4+List.length [x10.1]) then
some (.inl (s4++[x10.1]))
else none
def f30 (p0:ZR) : Option (List Int) :=
(rng (f30_b0 p0) (Int.toNat (List.length p0.2.1 : Int)) 0 ([] : List Int)).bind fun o7=>match o7 with
| .inl s4=>(some s4)
| .inr _=>none
def f31_b0 (p0:ZR) (i2:Int) (s4:List Int) : Option ((List Int) ⊕ Unit) :=
(ix p0.2.2.1 i2).bind fun x10 =>
bif apOk 8 (List.length s4+List.length [x10.1]) then
some (.inl (s4++[x10.1]))
else none
def f31 (p0:ZR) : Option (List Int) :=
(rng (f31_b0 p0) (Int.toNat (List.length p0.2.2.1 : Int)) 0 ([] : List Int)).bind fun o7=>match o7 with
| .inl s4=>(some s4)
| .inr _=>none
def f10 (p0:ZR) : Option (Bool) :=
(f30 p0).bind fun x1 =>
bif (!(!(decide (60 < (List.length x1 : Int))))||Option.isSome (f31 p0)) then
some ((decide (60 < (List.length x1 : Int)))||(decide (80 < (List.length ((f31 p0).getD default) : Int))))
else none
def f81_b0 (p0:ZR) (p1:Str) (i1:Int) (s:Unit) : Option (Unit ⊕ (Str×(List (ZO)))) :=
(ix p0.1 i1).bind fun x8 =>
bif decide (x8.1=p1) then
(some (.inr (x8.1,x8.2)))
else
(some (.inl ()))
def f81 (p0:ZR) (p1:Str) : Option ((ZS)×Bool) :=
(rng (f81_b0 p0 p1) (Int.toNat (List.length p0.1 : Int)) 0 ()).bind fun o5=>match o5 with
| .inl ()=>(some ((([] : Str),([] : List (ZO))),false))
| .inr (s3,s4)=>(some ((s3,s4),true))
def f81o_b0 (p0_0:ZR) (p1:Str) (i1:Int) (s:Unit) : Option (Unit ⊕ (Str×(List (ZO)))) :=
(ix p0_0.1 i1).bind fun x8 =>
bif decide (x8.1=p1) then
(some (.inr (x8.1,x8.2)))
else
(some (.inl ()))
def f81o (p0_0:ZR) (p1:Str) : Option ((ZS)×Bool) :=
(rng (f81o_b0 p0_0 p1) (Int.toNat (List.length p0_0.1 : Int)) 0 ()).bind fun o5=>match o5 with
| .inl ()=>(some ((([] : Str),([] : List (ZO))),false))
| .inr (s3,s4)=>(some ((s3,s4),true))
def f82_b0 (p0:ZR) (p1:Int) (i1:Int) (s:Unit) : Option (Unit ⊕ Unit) :=
(ix p0.2.1 i1).bind fun x6 =>
bif decide (x6.1=p1) then
(some (.inr ()))
else
(some (.inl ()))
def f82 (p0:ZR) (p1:Int) : Option (Bool) :=
(rng (f82_b0 p0 p1) (Int.toNat (List.length p0.2.1 : Int)) 0 ()).bind fun o3=>match o3 with
| .inl ()=>(some false)
| .inr ()=>(some true)
def f83 (p0_0:ZR) : Option (Unit) :=
bif apOk 32 (List.length p0_0.2.1) then
bif apOk 48 (List.length p0_0.2.2.1) then
some ()
else none
else none
def f84 (p0_0:ZR) (p1:Str) (p2:List Int) : Option (Unit) :=
bif apOk 8 (List.length p2) then
bif apOk 48 (List.length p0_0.2.2.1+List.length [(p0_0.2.2.2.2,p1,p2)]) then
some ()
else none
else none
def f113_b0 (p0:ZR) (p1:Int) (p2:Str) (p3:Int) (i1:Int) (s2:Int) : Option (Int ⊕ Unit) :=
(((ix p0.2.2.1 i1).bind fun x12 =>
bif (!(decide (x12.2.1=p2))||Option.isSome (ix x12.2.2 p3)) then
bif (decide (x12.2.1=p2))&&(decide (((ix x12.2.2 p3).getD default)=p1)) then
(some (.inl (w64 (s2+1))))
else
(some (.inl s2))
else none) : Option (Int ⊕ Unit)).bind fun o10=>match o10 with
| .inl s9=>(some (.inl s9))
| .inr _=>none
def f113 (p0:ZR) (p1:Int) (p2:Str) (p3:Int) : Option (Int) :=
(rng (f113_b0 p0 p1 p2 p3) (Int.toNat (List.length p0.2.2.1 : Int)) 0 0).bind fun o6=>match o6 with
| .inl s2=>(some s2)
| .inr _=>none
def f85_b2 (p0:ZR) (x6:ZS) (i8:Int) (x13:ZO) (i15:Int) (s:Unit) : Option (Unit ⊕ Unit) :=
(ix p0.2.1 i15).bind fun x20 =>
bif (!(decide (0 < x13.2.2.1))||Option.isSome (f113 p0 x20.1 x6.1 i8)) then
bif (decide (0 < x13.2.2.1))&&(decide (x13.2.2.1 < ((f113 p0 x20.1 x6.1 i8).getD default))) then
(some (.inr ()))
else
(some (.inl ()))
else none
def f85_b1 (p0:ZR) (x6:ZS) (i8:Int) (s:Unit) : Option (Unit ⊕ Unit) :=
(ix x6.2 i8).bind fun x13 =>
(rng (f85_b2 p0 x6 i8 x13) (Int.toNat (List.length p0.2.1 : Int)) 0 ()).bind fun o17=>match o17 with
| .inl ()=>(some (.inl ()))
| .inr ()=>(some (.inr ()))
def f85_b0 (p0:ZR) (i1:Int) (s:Unit) : Option (Unit ⊕ Unit) :=
(ix p0.1 i1).bind fun x6 =>
(rng (f85_b1 p0 x6) (Int.toNat (List.length x6.2 : Int)) 0 ()).bind fun o10=>match o10 with
| .inl ()=>(some (.inl ()))
| .inr ()=>(some (.inr ()))
def f85 (p0:ZR) : Option (Bool) :=
(rng (f85_b0 p0) (Int.toNat (List.length p0.1 : Int)) 0 ()).bind fun o3=>match o3 with
| .inl ()=>(some false)
| .inr ()=>(some true)
def f32_b1 (p0_0:ZR) (p2:List Int) (i12:Int) (s:Unit) : Option (Unit ⊕ Unit) :=
(ix p2 i12).bind fun x26 =>
(f82 p0_0 x26).bind fun x28 =>
bif !x28 then
(some (.inr ()))
else
(some (.inl ()))
def f32_b0 (p2:List Int) (i5:Int) (s:Unit) : Option (Unit ⊕ Unit) :=
(ix p2 i5).bind fun x32 =>
bif decide (x32 < 0) then
(some (.inr ()))
else
(some (.inl ()))
def f32 (p0_0:ZR) (p1:Str) (p2:List Int) : Option (Int×Int×(ZR)) :=
(f80 p1).bind fun x2 =>
bif !x2 then
(some (0,1,p0_0))
else
((rng (f32_b0 p2) (Int.toNat (List.length p2 : Int)) 0 ()).bind fun o7=>match o7 with
| .inl ()=>((f81o p0_0 p1).bind fun x9 =>
bif !x9.2 then
(some (0,5,p0_0))
else
((rng (f32_b1 p0_0 p2) (Int.toNat (List.length p2 : Int)) 0 ()).bind fun o14=>match o14 with
| .inl ()=>(bif !decide ((List.length p2 : Int)=(List.length x9.1.2 : Int)) then
(some (0,11,p0_0))
else
((f83 p0_0).bind fun x17 =>
(f84 p0_0 p1 p2).bind fun x19 =>
(f85 (p0_0.1,p0_0.2.1,(p0_0.2.2.1++[(p0_0.2.2.2.2,p1,p2)]),p0_0.2.2.2.1,(w64 (p0_0.2.2.2.2+1)))).bind fun x21 =>
bif x21 then
(some (0,9,p0_0))
else
(bif decide (1000≤(List.length p0_0.2.2.1 : Int)) then
(some (0,4,p0_0))
else
(some ((w64 ((w64 (p0_0.2.2.2.2+1)) - 1)),0,(p0_0.1,p0_0.2.1,(p0_0.2.2.1++[(p0_0.2.2.2.2,p1,p2)]),p0_0.2.2.2.1,(w64 (p0_0.2.2.2.2+1))))))))
| .inr ()=>(some (0,8,p0_0))))
| .inr ()=>(some (0,7,p0_0)))
def f55 (p0_0:ZW) (p1:Int) : Option ((Int×Str×List Int)×Int) :=
bif decide (p1 < 0) then
(some ((0,([] : Str),([] : List Int)),7))
else
(bif !((mget p0_0.2.2.1 p1).isSome) then
(some ((0,([] : Str),([] : List Int)),8))
else
((f60 (((((mget p0_0.2.2.1 p1).getD (0,([] : Str),[]))).2).2)).bind fun x3 =>
some (((((mget p0_0.2.2.1 p1).getD (0,([] : Str),[]))).1,((((mget p0_0.2.2.1 p1).getD (0,([] : Str),[]))).2).1,x3),0)))
def f33 (p0_0:ZW) (p1:Int) : Option (Int×(ZW)) :=
(f55 p0_0 p1).bind fun x2 =>
bif !decide (x2.2=0) then
(some (x2.2,p0_0))
else
(some (0,(p0_0.1,p0_0.2.1,(mdel p0_0.2.2.1 p1),p0_0.2.2.2.1,p0_0.2.2.2.2)))
def f36_b0 (p0_0:ZR) (p1:Int) (i2:Int) (s:Unit) : Option (Unit ⊕ (Int×Str×List Int)) :=
(ix p0_0.2.2.1 i2).bind fun x10 =>
bif decide (x10.1=p1) then
(some (.inr (x10.1,x10.2.1,x10.2.2)))
else
(some (.inl ()))
def f36 (p0_0:ZR) (p1:Int) : Option ((Int×Str×List Int)×Int) :=
bif decide (p1 < 0) then
(some ((0,([] : Str),([] : List Int)),7))
else
((rng (f36_b0 p0_0 p1) (Int.toNat (List.length p0_0.2.2.1 : Int)) 0 ()).bind fun o7=>match o7 with
| .inl ()=>(some ((0,([] : Str),([] : List Int)),8))
| .inr (s4,s5,s6)=>(some ((s4,s5,s6),0)))
def f15_b0 (p0:List Int) (p1:Int) (i1:Int) (s:Unit) : Option (Unit ⊕ Unit) :=
(ix p0 i1).bind fun x6 =>
bif decide (x6=p1) then
(some (.inr ()))
else
(some (.inl ()))
def f15 (p0:List Int) (p1:Int) : Option (Bool) :=
(rng (f15_b0 p0 p1) (Int.toNat (List.length p0 : Int)) 0 ()).bind fun o3=>match o3 with
| .inl ()=>(some false)
| .inr ()=>(some true)
def f86_b0 (p0_0:ZR) (p1:List Int) (i2:Int) (s4:(List (Int×Str×List Int))) : Option (((List (Int×Str×List Int))) ⊕ Unit) :=
(((ix p0_0.2.2.1 i2).bind fun x13 =>
(f15 p1 x13.1).bind fun x15 =>
bif !x15 then
(bif apOk 48 (List.length s4+List.length [x13]) then
some (.inl (s4++[x13]))
else none)
else
(some (.inl s4))) : Option (((List (Int×Str×List Int))) ⊕ Unit)).bind fun o11=>match o11 with
| .inl s10=>(some (.inl s10))
| .inr _=>none
def f86 (p0_0:ZR) (p1:List Int) : Option ((ZR)) :=
(rng (f86_b0 p0_0 p1) (Int.toNat (List.length p0_0.2.2.1 : Int)) 0 ([] : List (Int×Str×List Int))).bind fun o7=>match o7 with
| .inl s4=>(some (p0_0.1,p0_0.2.1,s4,p0_0.2.2.2.1,p0_0.2.2.2.2))
| .inr _=>none
def f34 (p0_0:ZR) (p1:Int) : Option (Int×(ZR)) :=
(f36 p0_0 p1).bind fun x2 =>
((bif decide (x2.2=0) then
((f86 p0_0 [p1]).bind fun x8 =>
some (.inl x8))
else
(some (.inl p0_0))) : Option (((ZR)) ⊕ Unit)).bind fun o5=>match o5 with
| .inl s4=>(some (x2.2,s4))
| .inr _=>none
def f57 (p0:ZW) (p1:List Int) : Option (Int) :=
(f50 p0 p1).bind fun x1 =>
some x1
def f17 (p0:ZW) (p1:Int) : Option ((Int×Int×Str)×Int) :=
(f57 p0 [p1]).bind fun x1 =>
bif !decide (x1=0) then
(some ((0,0,([] : Str)),x1))
else
(some (((((mget p0.2.1 p1).getD (0,0,([] : Str)))).1,((((mget p0.2.1 p1).getD (0,0,([] : Str)))).2).1,((((mget p0.2.1 p1).getD (0,0,([] : Str)))).2).2),0))
def f35_b0 (p0:ZR) (p1:Int) (i2:Int) (s:Unit) : Option (Unit ⊕ (Int×Int×Str)) :=
(ix p0.2.1 i2).bind fun x10 =>
bif decide (x10.1=p1) then
(some (.inr (x10.1,x10.2.1,x10.2.2)))
else
(some (.inl ()))
def f35 (p0:ZR) (p1:Int) : Option ((Int×Int×Str)×Int) :=
bif decide (p1 < 0) then
(some ((0,0,([] : Str)),7))
else
((rng (f35_b0 p0 p1) (Int.toNat (List.length p0.2.1 : Int)) 0 ()).bind fun o7=>match o7 with
| .inl ()=>(some ((0,0,([] : Str)),8))
| .inr (s4,s5,s6)=>(some ((s4,s5,s6),0)))
def f14 (p0_0:ZW) (p1:Int) : Option ((Int×Str×List Int)×Int) :=
(f55 p0_0 p1).bind fun x1 =>
some (x1.1,x1.2)
def f21_b0 (p0:List Int) (p1:List Int) (i2:Int) (s:Unit) : Option (Unit ⊕ Unit) :=
(ix p0 i2).bind fun x7 =>
(ix p1 i2).bind fun x9 =>
bif !decide (x7=x9) then
(some (.inr ()))
else
(some (.inl ()))
def f21 (p0:List Int) (p1:List Int) : Option (Bool) :=
bif !decide ((List.length p0 : Int)=(List.length p1 : Int)) then
(some false)
else
((rng (f21_b0 p0 p1) (Int.toNat (List.length p0 : Int)) 0 ()).bind fun o4=>match o4 with
| .inl ()=>(some true)
| .inr ()=>(some false))
def f121_b0 (p0:List Str) (q1:Str→Option Bool) (i1:Int) (s:Unit) : Option (Unit ⊕ Int) :=
(ix p0 i1).bind fun x7 =>
(q1 x7).bind fun x9 =>
bif x9 then
(some (.inr i1))
else
(some (.inl ()))
def f121 (p0:List Str) (q1:Str→Option Bool) : Option (Int) :=
(rng (f121_b0 p0 q1) (Int.toNat (List.length p0 : Int)) 0 ()).bind fun o4=>match o4 with
| .inl ()=>(some (-1))
| .inr s3=>(some s3)
def f106 (p0:List Str) (q1:Str→Option Bool) : Option (Bool) :=
(f121 p0 q1).bind fun x1 =>
some (decide (0≤x1))
def f107 (p0:Str) : Option (Bool) :=
(f73 p0).bind fun x1 =>
some (!x1)
def f122 (p0:ZO) (p1:Str) : Option (Bool) :=
some (decide (p0.1=p1))
def f108 (p0:Option (ZS)) (p1:Str) : Option (Int) :=
(p0).bind fun x1 =>
(f112 x1.2 (fun y1=>f122 y1 p1)).bind fun x3 =>
some x3
def f64_b0 (p3:List Str) (x6:(Option (ZS))) (i9:Int) (s11:List Int) : Option ((List Int) ⊕ Unit) :=
(ix p3 i9).bind fun x19 =>
(f108 x6 x19).bind fun x21 =>
bif decide (x21 < 0) then
(some (.inr ()))
else
(bif apOk 8 (List.length s11+List.length [x21]) then
some (.inl (s11++[x21]))
else none)
def f64 (p0:ZW) (p1:Int) (p2:Str) (p3:List Str) : Option (Int×List Int) :=
bif (!(!false)||Option.isSome (f73 p2)) then
bif (!(!(false||(!((f73 p2).getD default))))||Option.isSome (f106 p3 (fun y1=>f107 y1))) then
bif (false||(!((f73 p2).getD default)))||((f106 p3 (fun y1=>f107 y1)).getD default) then
(some (1,([] : List Int)))
else
(bif decide (p1 < 0) then
(some (7,([] : List Int)))
else
((f75 p0 p2).bind fun x6 =>
bif (Option.isNone x6) then
(some (5,([] : List Int)))
else
((rng (f64_b0 p3 x6) (Int.toNat (List.length p3 : Int)) 0 ([] : List Int)).bind fun o14=>match o14 with
| .inl s11=>((f50 p0 [p1]).bind fun x16 =>
some (x16,s11))
| .inr ()=>(some (5,([] : List Int))))))
else none
else none
def f19_b0 (s11:List Int) (x:Int×(Int×Str×List Int)) : Option ((List Int) ⊕ Unit) :=
match x with
| (y17,y18)=>(bif apOk 8 (List.length s11+List.length [y17]) then
some (.inl (s11++[y17]))
else none)
def f19 (p0:ZW) (p1:Int) (p2:Str) (p3:Str) : Option (Int×List Int) :=
(f64 p0 p1 p2 [p3]).bind fun x2 =>
bif !decide (x2.1=0) then
(some (x2.1,([] : List Int)))
else
((ix x2.2 0).bind fun x5 =>
(f65 p0 p1 p2 x5).bind fun x7 =>
(f109 f19_b0 ([] : List Int) p0 p2 x5 p1).bind fun o15=>match o15 with
| .inl s11=>(some (0,s11))
| .inr _=>none)
def f114_b0 (p0:ZS) (p1:Str) (i1:Int) (s:Unit) : Option (Unit ⊕ Int) :=
(ix p0.2 i1).bind fun x7 =>
bif decide (x7.1=p1) then
(some (.inr i1))
else
(some (.inl ()))
def f114 (p0:ZS) (p1:Str) : Option (Int×Bool) :=
(rng (f114_b0 p0 p1) (Int.toNat (List.length p0.2 : Int)) 0 ()).bind fun o4=>match o4 with
| .inl ()=>(some (0,false))
| .inr s3=>(some (s3,true))
def f87_b1 (p3:List Str) (x8:(ZS)×Bool) (i11:Int) (s13:List Int) : Option ((List Int) ⊕ Unit) :=
(ix p3 i11).bind fun x22 =>
(f114 x8.1 x22).bind fun x24 =>
bif !x24.2 then
(some (.inr ()))
else
(bif apOk 8 (List.length s13+List.length [x24.1]) then
some (.inl (s13++[x24.1]))
else none)
def f87_b0 (p2:Str) (p3:List Str) (i3:Int) (s:Unit) : Option (Unit ⊕ Unit) :=
(ix ([p2]++p3) i3).bind fun x29 =>
(f80 x29).bind fun x31 =>
bif !x31 then
(some (.inr ()))
else
(some (.inl ()))
def f87 (p0:ZR) (p1:Int) (p2:Str) (p3:List Str) : Option (Int×List Int) :=
bif apOk 16 (List.length [p2]+List.length p3) then
(rng (f87_b0 p2 p3) (Int.toNat (List.length ([p2]++p3) : Int)) 0 ()).bind fun o5=>match o5 with
| .inl ()=>(bif decide (p1 < 0) then
(some (7,([] : List Int)))
else
((f81 p0 p2).bind fun x8 =>
bif !x8.2 then
(some (5,([] : List Int)))
else
((rng (f87_b1 p3 x8) (Int.toNat (List.length p3 : Int)) 0 ([] : List Int)).bind fun o16=>match o16 with
| .inl s13=>((f82 p0 p1).bind fun x18 =>
bif !x18 then
(some (8,([] : List Int)))
else
(some (0,s13)))
| .inr ()=>(some (5,([] : List Int))))))
| .inr ()=>(some (1,([] : List Int)))
else none
def f37_b0 (p0:ZR) (p1:Int) (p2:Str) (x2:Int×List Int) (i5:Int) (s7:List Int) : Option ((List Int) ⊕ Unit) :=
(((ix p0.2.2.1 i5).bind fun x16 =>
bif (!(decide (x16.2.1=p2))||Option.isSome (ix x2.2 0)) then
bif (!(decide (x16.2.1=p2))||Option.isSome (ix x16.2.2 ((ix x2.2 0).getD default))) then
bif (decide (x16.2.1=p2))&&(decide (((ix x16.2.2 ((ix x2.2 0).getD default)).getD default)=p1)) then
(bif apOk 8 (List.length s7+List.length [x16.1]) then
some (.inl (s7++[x16.1]))
else none)
else
(some (.inl s7))
else none
else none) : Option ((List Int) ⊕ Unit)).bind fun o14=>match o14 with
| .inl s13=>(some (.inl s13))
| .inr _=>none
def f37 (p0:ZR) (p1:Int) (p2:Str) (p3:Str) : Option (Int×List Int) :=
(f87 p0 p1 p2 [p3]).bind fun x2 =>
bif !decide (x2.1=0) then
(some (x2.1,([] : List Int)))
else
((rng (f37_b0 p0 p1 p2 x2) (Int.toNat (List.length p0.2.2.1 : Int)) 0 ([] : List Int)).bind fun o10=>match o10 with
| .inl s7=>(some (0,s7))
| .inr _=>none)
def f38_b0 (x2:Int×List Int) (s11:List Int) (x:Int×(Int×Str×List Int)) : Option ((List Int) ⊕ Unit) :=
match x with
| (y17,y18)=>((ix x2.2 1).bind fun x19 =>
(ix y18.2.2 x19).bind fun x21 =>
bif apOk 8 (List.length s11+List.length [x21]) then
some (.inl (s11++[x21]))
else none)
def f38 (p0:ZW) (p1:Int) (p2:Str) (p3:Str) (p4:Str) : Option (Int×List Int) :=
(f64 p0 p1 p2 [p3,p4]).bind fun x2 =>
bif !decide (x2.1=0) then
(some (x2.1,([] : List Int)))
else
((ix x2.2 0).bind fun x5 =>
(f65 p0 p1 p2 x5).bind fun x7 =>
(f109 (f38_b0 x2) ([] : List Int) p0 p2 x5 p1).bind fun o15=>match o15 with
| .inl s11=>((f88 s11).bind fun x24 =>
(f89 x24).bind fun x26 =>
some (0,x26))
| .inr _=>none)
def f39_b1 (p0:ZR) (p1:Int) (p2:Str) (x2:Int×List Int) (s7:List Int) (x13:Int×Int×Str) (i15:Int) (s:Unit) : Option (Unit ⊕ Unit) :=
(ix p0.2.2.1 i15).bind fun x20 =>
bif (!(decide (x20.2.1=p2))||Option.isSome (ix x2.2 0)) then
bif (!(decide (x20.2.1=p2))||Option.isSome (ix x20.2.2 ((ix x2.2 0).getD default))) then
bif (!((decide (x20.2.1=p2))&&(decide (((ix x20.2.2 ((ix x2.2 0).getD default)).getD default)=p1)))||Option.isSome (ix x2.2 1)) then
bif (!((decide (x20.2.1=p2))&&(decide (((ix x20.2.2 ((ix x2.2 0).getD default)).getD default)=p1)))||Option.isSome (ix x20.2.2 ((ix x2.2 1).getD default))) then
bif ((decide (x20.2.1=p2))&&(decide (((ix x20.2.2 ((ix x2.2 0).getD default)).getD default)=p1)))&&(decide (((ix x20.2.2 ((ix x2.2 1).getD default)).getD default)=x13.1)) then
(bif apOk 8 (List.length s7+List.length [x13.1]) then
some (.inr ())
else none)
else
(some (.inl ()))
else none
else none
else none
else none
def f39_b0 (p0:ZR) (p1:Int) (p2:Str) (x2:Int×List Int) (i5:Int) (s7:List Int) : Option ((List Int) ⊕ Unit) :=
(ix p0.2.1 i5).bind fun x13 =>
(rng (f39_b1 p0 p1 p2 x2 s7 x13) (Int.toNat (List.length p0.2.2.1 : Int)) 0 ()).bind fun o17=>match o17 with
| .inl ()=>(some (.inl s7))
| .inr ()=>(some (.inl (s7++[x13.1])))
def f39 (p0:ZR) (p1:Int) (p2:Str) (p3:Str) (p4:Str) : Option (Int×List Int) :=
(f87 p0 p1 p2 [p3,p4]).bind fun x2 =>
bif !decide (x2.1=0) then
(some (x2.1,([] : List Int)))
else
((rng (f39_b0 p0 p1 p2 x2) (Int.toNat (List.length p0.2.1 : Int)) 0 ([] : List Int)).bind fun o10=>match o10 with
| .inl s7=>(some (0,s7))
| .inr _=>none)
def f12 (p0_0:ZW) (p1:Int) (p2:Int) : Option (List Int×List Int×List Int×Int) :=
bif (!(!(decide (p2 < 1)))||Option.isSome (f49)) then
bif (decide (p2 < 1))||(decide (3 < p2)) then
(some (([] : List Int),([] : List Int),([] : List Int),7))
else
((f50 p0_0 [p1]).bind fun x3 =>
bif !decide (x3=0) then
(some (([] : List Int),([] : List Int),([] : List Int),x3))
else
((f51 p0_0 p1 p2).bind fun x6 =>
(f52 x6.1).bind fun x8 =>
(f52 x6.2.1).bind fun x10 =>
(f52 x6.2.2).bind fun x12 =>
some (x8,x10,x12,0)))
else none
def f117 (p0:ZO) (p1:Int) : Option (Int) :=
bif decide (p1=1) then
(some p0.2.2.2.1)
else
(bif decide (p1=2) then
(some p0.2.2.2.2.1)
else
(some p0.2.2.2.2.2))
def f90_b2 (p0:ZR) (s12:List Int) (i24:Int) (s26:List Int) : Option ((List Int) ⊕ Unit) :=
(((ix p0.2.2.1 i24).bind fun x35 =>
(f15 s12 x35.1).bind fun x37 =>
bif x37 then
(bif apOk 8 (List.length s26+List.length [x35.1]) then
some (.inl (s26++[x35.1]))
else none)
else
(some (.inl s26))) : Option ((List Int) ⊕ Unit)).bind fun o33=>match o33 with
| .inl s32=>(some (.inl s32))
| .inr _=>none
def f90_b3 (p0:ZR) (s12:List Int) (s18:List Int) (x46:Int×Int×Str) (i52:Int) (s:Unit) : Option (Unit ⊕ Unit) :=
(ix p0.2.2.1 i52).bind fun x57 =>
(f15 s12 x57.1).bind fun x59 =>
bif (!x59||Option.isSome (f15 x57.2.2 x46.1)) then
bif x59&&((f15 x57.2.2 x46.1).getD default) then
(bif apOk 8 (List.length s18+List.length [x46.1]) then
some (.inr ())
else none)
else
(some (.inl ()))
else none
def f90_b1 (p0:ZR) (s11:List Int) (s12:List Int) (i15:Int) (s:List Int×List Int) : Option ((List Int×List Int) ⊕ Unit) :=
match s with
| (s17,s18)=>((((ix p0.2.1 i15).bind fun x46 =>
(f15 s11 x46.1).bind fun x48 =>
bif x48 then
(bif apOk 8 (List.length s17+List.length [x46.1]) then
some (.inl ((s17++[x46.1]),s18))
else none)
else
((rng (f90_b3 p0 s12 s18 x46) (Int.toNat (List.length p0.2.2.1 : Int)) 0 ()).bind fun o54=>match o54 with
| .inl ()=>(some (.inl (s17,s18)))
| .inr ()=>(some (.inl (s17,(s18++[x46.1])))))) : Option ((List Int×List Int) ⊕ Unit)).bind fun o44=>match o44 with
| .inl (s42,s43)=>(some (.inl (s42,s43)))
| .inr _=>none)
def f90_b6 (x77:Int×Str×List Int) (x102:Int) (i115:Int) (s:Bool×List Int) : Option ((Bool×List Int) ⊕ Unit) :=
match s with
| (s116,s118)=>((((ix x77.2.2 i115).bind fun x129 =>
bif (!(decide (x102=1))||Option.isSome (f15 s118 x129)) then
bif (decide (x102=1))&&(!((f15 s118 x129).getD default)) then
(bif apOk 8 (List.length s118+List.length [x129]) then
some (.inl (true,(s118++[x129])))
else none)
else
(some (.inl (s116,s118)))
else none) : Option ((Bool×List Int) ⊕ Unit)).bind fun o127=>match o127 with
| .inl (s125,s126)=>(some (.inl (s125,s126)))
| .inr _=>none)
def f90_b5 (p2:Int) (x77:Int×Str×List Int) (x79:(ZS)×Bool) (i81:Int) (s:Bool×List Int×List Int) : Option ((Bool×List Int×List Int) ⊕ Unit) :=
match s with
| (s82,s84,s85)=>((((ix x77.2.2 i81).bind fun x98 =>
(ix x79.1.2 i81).bind fun x100 =>
(f117 x100 p2).bind fun x102 =>
(f15 s84 x98).bind fun x104 =>
bif (!x104)||(decide (x102=3)) then
(some (.inl (s82,s84,s85)))
else
((((f15 s85 x77.1).bind fun x111 =>
bif !x111 then
(bif apOk 8 (List.length s85+List.length [x77.1]) then
some (.inl (true,(s85++[x77.1])))
else none)
else
(some (.inl (s82,s85)))) : Option ((Bool×List Int) ⊕ Unit)).bind fun o109=>match o109 with
| .inl (s107,s108)=>((rng (f90_b6 x77 x102) (Int.toNat (List.length x77.2.2 : Int)) 0 (s107,s84)).bind fun o122=>match o122 with
| .inl (s116,s118)=>(some (.inl (s116,s118,s108)))
| .inr _=>none)
| .inr _=>none)) : Option ((Bool×List Int×List Int) ⊕ Unit)).bind fun o96=>match o96 with
| .inl (s93,s94,s95)=>(some (.inl (s93,s94,s95)))
| .inr _=>none)
def f90_b4 (p0:ZR) (p2:Int) (i65:Int) (s:Bool×List Int×List Int) : Option ((Bool×List Int×List Int) ⊕ Unit) :=
match s with
| (s66,s68,s69)=>((ix p0.2.2.1 i65).bind fun x77 =>
(f81 p0 x77.2.1).bind fun x79 =>
(rng (f90_b5 p2 x77 x79) (Int.toNat (List.length x77.2.2 : Int)) 0 (s66,s68,s69)).bind fun o90=>match o90 with
| .inl (s82,s84,s85)=>(some (.inl (s82,s84,s85)))
| .inr _=>none)
def f90_b0 (p0:ZR) (p2:Int) (s:Bool×List Int×List Int) : Option ((Bool×List Int×List Int) ⊕ (List Int×List Int)) :=
match s with
| (s4,s5,s6)=>(bif s4 then
((rng (f90_b4 p0 p2) (Int.toNat (List.length p0.2.2.1 : Int)) 0 (false,s5,s6)).bind fun o74=>match o74 with
| .inl (s66,s68,s69)=>(some (.inl (s66,s68,s69)))
| .inr _=>none)
else
(some (.inr (s5,s6))))
def f90 (p0:ZR) (p1:Int) (p2:Int) : Option (List Int×List Int×List Int) :=
(lrun (f90_b0 p0 p2) (List.length p0.2.1+List.length p0.2.2.1 * 4+4) (true,[p1],([] : List Int))).bind fun o13=>match o13 with
| (s11,s12)=>((rng (f90_b1 p0 s11 s12) (Int.toNat (List.length p0.2.1 : Int)) 0 (([] : List Int),([] : List Int))).bind fun o22=>match o22 with
| .inl (s17,s18)=>((rng (f90_b2 p0 s12) (Int.toNat (List.length p0.2.2.1 : Int)) 0 ([] : List Int)).bind fun o29=>match o29 with
| .inl s26=>(some (s17,s26,s18))
| .inr _=>none)
| .inr _=>none)
def f40 (p0:ZR) (p1:Int) (p2:Int) : Option (Int×List Int×List Int×List Int) :=
bif ((decide (p2 < 1))||(decide (3 < p2)))||(decide (p1 < 0)) then
(some (7,([] : List Int),([] : List Int),([] : List Int)))
else
((f82 p0 p1).bind fun x5 =>
bif !x5 then
(some (8,([] : List Int),([] : List Int),([] : List Int)))
else
((f90 p0 p1 p2).bind fun x8 =>
some (0,x8.1,x8.2.1,x8.2.2)))
def f91 (p0:Int) : Option (Bool) :=
some ((decide (0≤p0))&&(decide (p0≤1000)))
def f41_b3 (s14:List (Int×Int)) (x50:Int) (i52:Int) (s:Unit) : Option (Unit ⊕ Int) :=
(ix s14 i52).bind fun x60 =>
bif decide (x60.1=x50) then
(some (.inr x60.2))
else
(some (.inl ()))
def f41_b2 (s14:List (Int×Int)) (x37:(Int×Str×List Int)×Int) (i39:Int) (s41:List Int) : Option ((List Int) ⊕ Unit) :=
(ix x37.1.2.2 i39).bind fun x50 =>
(rng (f41_b3 s14 x50) (Int.toNat (List.length s14 : Int)) 0 ()).bind fun o55=>match o55 with
| .inl ()=>(bif apOk 8 (List.length s41+List.length [x50]) then
some (.inl (s41++[x50]))
else none)
| .inr s54=>(bif apOk 8 (List.length s41+List.length [s54]) then
some (.inl (s41++[s54]))
else none)
def f41_b1 (p0_0:ZR) (x8:List Int×List Int×List Int) (s14:List (Int×Int)) (i21:Int) (s:(List (Int×Int))×(ZR)) : Option (((List (Int×Int))×(ZR)) ⊕ Unit) :=
match s with
| (s23,s24)=>((ix x8.2.1 i21).bind fun x35 =>
(f36 p0_0 x35).bind fun x37 =>
(rng (f41_b2 s14 x37) (Int.toNat (List.length x37.1.2.2 : Int)) 0 ([] : List Int)).bind fun o44=>match o44 with
| .inl s41=>(bif apOk 16 (List.length s23+List.length [(x35,s24.2.2.2.2)]) then
(f84 s24 x37.1.2.1 s41).bind fun x47 =>
some (.inl ((s23++[(x35,s24.2.2.2.2)]),(s24.1,s24.2.1,(s24.2.2.1++[(s24.2.2.2.2,x37.1.2.1,s41)]),s24.2.2.2.1,(w64 (s24.2.2.2.2+1)))))
else none)
| .inr _=>none)
def f41_b0 (p0_0:ZR) (p2:Int) (x8:List Int×List Int×List Int) (i12:Int) (s:(List (Int×Int))×(ZR)) : Option (((List (Int×Int))×(ZR)) ⊕ Unit) :=
match s with
| (s14,s15)=>((ix x8.1 i12).bind fun x64 =>
(f35 p0_0 x64).bind fun x66 =>
bif apOk 16 (List.length s14+List.length [(x64,s15.2.2.2.1)]) then
bif apOk 32 (List.length s15.2.1+List.length [(s15.2.2.2.1,p2,x66.1.2.2)]) then
some (.inl ((s14++[(x64,s15.2.2.2.1)]),(s15.1,(s15.2.1++[(s15.2.2.2.1,p2,x66.1.2.2)]),s15.2.2.1,(w64 (s15.2.2.2.1+1)),s15.2.2.2.2)))
else none
else none)
def f41 (p0_0:ZR) (p1:Int) (p2:Int) : Option ((List (Int×Int))×(List (Int×Int))×Int×(ZR)) :=
(f91 p2).bind fun x2 =>
bif (!x2)||(decide (p1 < 0)) then
(some (([] : List (Int×Int)),([] : List (Int×Int)),7,p0_0))
else
((f82 p0_0 p1).bind fun x5 =>
bif !x5 then
(some (([] : List (Int×Int)),([] : List (Int×Int)),8,p0_0))
else
((f90 p0_0 p1 1).bind fun x8 =>
(f83 p0_0).bind fun x10 =>
(rng (f41_b0 p0_0 p2 x8) (Int.toNat (List.length x8.1 : Int)) 0 (([] : List (Int×Int)),p0_0)).bind fun o19=>match o19 with
| .inl (s14,s15)=>((rng (f41_b1 p0_0 x8 s14) (Int.toNat (List.length x8.2.1 : Int)) 0 (([] : List (Int×Int)),s15)).bind fun o28=>match o28 with
| .inl (s23,s24)=>((f85 s24).bind fun x30 =>
bif x30 then
(some (([] : List (Int×Int)),([] : List (Int×Int)),9,p0_0))
else
(bif (decide (500 < (List.length s24.2.1 : Int)))||(decide (1000 < (List.length s24.2.2.1 : Int))) then
(some (([] : List (Int×Int)),([] : List (Int×Int)),4,p0_0))
else
(some (s14,s23,0,s24))))
| .inr _=>none)
| .inr _=>none))
def f42_b0 (p0:List (Int×Int)) (p1:List (Int×Int)) (i2:Int) (s:Unit) : Option (Unit ⊕ Unit) :=
(ix p0 i2).bind fun x7 =>
(ix p1 i2).bind fun x9 =>
bif !((decide (x7.1=x9.1))&&(decide (x7.2=x9.2))) then
(some (.inr ()))
else
(some (.inl ()))
def f42 (p0:List (Int×Int)) (p1:List (Int×Int)) : Option (Bool) :=
bif !decide ((List.length p0 : Int)=(List.length p1 : Int)) then
(some false)
else
((rng (f42_b0 p0 p1) (Int.toNat (List.length p0 : Int)) 0 ()).bind fun o4=>match o4 with
| .inl ()=>(some true)
| .inr ()=>(some false))
def f43_b0 (p2:Int) (x7:List Int) (i9:Int) (s11:(ZW)) : Option (((ZW)) ⊕ Unit) :=
(ix x7 i9).bind fun x17 =>
some (.inl (s11.1,(mset s11.2.1 x17 ((((mget s11.2.1 x17).getD (0,0,([] : Str)))).1,p2,((((mget s11.2.1 x17).getD (0,0,([] : Str)))).2).2)),s11.2.2.1,s11.2.2.2.1,s11.2.2.2.2))
def f43 (p0_0:ZW) (p1:Int) (p2:Int) : Option (List Int×Int×(ZW)) :=
(f58 p0_0 p1 p2).bind fun x2 =>
bif !decide (x2=0) then
(some (([] : List Int),x2,p0_0))
else
((f51 p0_0 p1 2).bind fun x5 =>
(f52 x5.1).bind fun x7 =>
(rng (f43_b0 p2 x7) (Int.toNat (List.length x7 : Int)) 0 p0_0).bind fun o14=>match o14 with
| .inl s11=>(some (x7,0,s11))
| .inr _=>none)
def f44_b0 (p2:Int) (x8:List Int×List Int×List Int) (i10:Int) (s12:(List (Int×Int×Str))) : Option (((List (Int×Int×Str))) ⊕ Unit) :=
(((ix s12 i10).bind fun x21 =>
(f15 x8.1 x21.1).bind fun x23 =>
bif x23 then
(some (.inl (s12.set (Int.toNat i10) (x21.1,p2,x21.2.2))))
else
(some (.inl s12))) : Option (((List (Int×Int×Str))) ⊕ Unit)).bind fun o19=>match o19 with
| .inl s18=>(some (.inl s18))
| .inr _=>none
def f44 (p0_0:ZR) (p1:Int) (p2:Int) : Option (List Int×Int×(ZR)) :=
(f91 p2).bind fun x2 =>
bif (!x2)||(decide (p1 < 0)) then
(some (([] : List Int),7,p0_0))
else
((f82 p0_0 p1).bind fun x5 =>
bif !x5 then
(some (([] : List Int),8,p0_0))
else
((f90 p0_0 p1 2).bind fun x8 =>
(rng (f44_b0 p2 x8) (Int.toNat (List.length p0_0.2.1 : Int)) 0 p0_0.2.1).bind fun o15=>match o15 with
| .inl s12=>(some (x8.1,0,(p0_0.1,s12,p0_0.2.2.1,p0_0.2.2.2.1,p0_0.2.2.2.2)))
| .inr _=>none))
def f67 (p0:Int) (p1:List (Int×Bool)×List (Int×Bool)×List (Int×Bool)) : Option (Bool) :=
some ((mget p1.1 p0).getD false)
def f69 (p0:Int) (p1:Int×Str×List Int) (p2:List (Int×Bool)×List (Int×Bool)×List (Int×Bool)) : Option (Bool) :=
some ((mget p2.2.1 p0).getD false)
def f68_m0 (q1:Int→(Int×Str×List Int)→Option Bool) (s6:(List (Int×(Int×Str×List Int)))) (p11:Int×(Int×Str×List Int)) : Option (((List (Int×(Int×Str×List Int)))) ⊕ Unit) :=
(q1 p11.1 p11.2).bind fun x14 =>
bif x14 then
(some (.inl (mdel s6 p11.1)))
else
(some (.inl s6))
def f68_m0_q (a b:((List (Int×(Int×Str×List Int)))) ⊕ Unit) : Prop :=
 match a,b with
 | .inl s6z,.inl s6=>s6z.Perm s6
 | .inr a,.inr b=>b=a
 | _,_=>False
def f68 (p0_0:List (Int×(Int×Str×List Int))) (q1:Int→(Int×Str×List Int)→Option Bool) : Option ((List (Int×(Int×Str×List Int)))) :=
(zBu (f68_m0 q1) p0_0 p0_0).bind fun o8=>match o8 with
| .inl s6=>(some s6)
| .inr _=>none
def f71 (p0:Int) (p1:Int×Int×Str) (p2:List (Int×Bool)×List (Int×Bool)×List (Int×Bool)) : Option (Bool) :=
some ((mget p2.1 p0).getD false)
def f70_m0 (q1:Int→(Int×Int×Str)→Option Bool) (s6:(List (Int×(Int×Int×Str)))) (p11:Int×(Int×Int×Str)) : Option (((List (Int×(Int×Int×Str)))) ⊕ Unit) :=
(q1 p11.1 p11.2).bind fun x14 =>
bif x14 then
(some (.inl (mdel s6 p11.1)))
else
(some (.inl s6))
def f70_m0_q (a b:((List (Int×(Int×Int×Str)))) ⊕ Unit) : Prop :=
 match a,b with
 | .inl s6z,.inl s6=>s6z.Perm s6
 | .inr a,.inr b=>b=a
 | _,_=>False
def f70 (p0_0:List (Int×(Int×Int×Str))) (q1:Int→(Int×Int×Str)→Option Bool) : Option ((List (Int×(Int×Int×Str)))) :=
(zBu (f70_m0 q1) p0_0 p0_0).bind fun o8=>match o8 with
| .inl s6=>(some s6)
| .inr _=>none
def f20_m0 (x5:(List (Int×Bool))×(List (Int×Bool))×(List (Int×Bool))) (s11:(List (Int×Bool))) (p24:Int×(Int×Str×List Int)) : Option (((List (Int×Bool))) ⊕ Unit) :=
(f66 p24.2.2.2 (fun y1=>f67 y1 (x5.1,s11,x5.2.2))).bind fun x27 =>
bif x27 then
(some (.inl (mset s11 p24.1 true)))
else
(some (.inl s11))
def f20_m0_q (a b:((List (Int×Bool))) ⊕ Unit) : Prop :=
 match a,b with
 | .inl s11z,.inl s11=>s11z.Perm s11
 | .inr a,.inr b=>b=a
 | _,_=>False
def f20 (p0_0:ZW) (p1:Int) : Option (List Int×List Int×Int×(ZW)) :=
(f57 p0_0 [p1]).bind fun x2 =>
bif !decide (x2=0) then
(some (([] : List Int),([] : List Int),x2,p0_0))
else
((f51 p0_0 p1 3).bind fun x5 =>
(zBu (f20_m0 x5) x5.2.1 p0_0.2.2.1).bind fun o13=>match o13 with
| .inl s11=>((f68 p0_0.2.2.1 (fun y1 y2=>f69 y1 y2 (x5.1,s11,x5.2.2))).bind fun x15 =>
(f70 p0_0.2.1 (fun y1 y2=>f71 y1 y2 (x5.1,s11,x5.2.2))).bind fun x17 =>
(f52 x5.1).bind fun x19 =>
(f52 s11).bind fun x21 =>
some (x19,x21,0,(p0_0.1,x17,x15,p0_0.2.2.2.1,p0_0.2.2.2.2)))
| .inr _=>none)
def f45_b1 (x6:List Int×List Int×List Int) (x15:(ZR)) (i17:Int) (s19:(List (Int×Int×Str))) : Option (((List (Int×Int×Str))) ⊕ Unit) :=
(((ix x15.2.1 i17).bind fun x28 =>
(f15 x6.1 x28.1).bind fun x30 =>
bif !x30 then
(bif apOk 32 (List.length s19+List.length [x28]) then
some (.inl (s19++[x28]))
else none)
else
(some (.inl s19))) : Option (((List (Int×Int×Str))) ⊕ Unit)).bind fun o26=>match o26 with
| .inl s25=>(some (.inl s25))
| .inr _=>none
def f45_b2 (x6:List Int×List Int×List Int) (x38:Int×Str×List Int) (i42:Int) (s43:Bool) : Option (Bool ⊕ Unit) :=
(ix x38.2.2 i42).bind fun x52 =>
bif (!(!s43)||Option.isSome (f15 x6.1 x52)) then
some (.inl (s43||((f15 x6.1 x52).getD default)))
else none
def f45_b0 (p0_0:ZR) (x6:List Int×List Int×List Int) (i8:Int) (s10:List Int) : Option ((List Int) ⊕ Unit) :=
(((ix p0_0.2.2.1 i8).bind fun x38 =>
(f15 x6.2.1 x38.1).bind fun x40 =>
(rng (f45_b2 x6 x38) (Int.toNat (List.length x38.2.2 : Int)) 0 x40).bind fun o47=>match o47 with
| .inl s43=>(bif s43 then
(bif apOk 8 (List.length s10+List.length [x38.1]) then
some (.inl (s10++[x38.1]))
else none)
else
(some (.inl s10)))
| .inr _=>none) : Option ((List Int) ⊕ Unit)).bind fun o36=>match o36 with
| .inl s35=>(some (.inl s35))
| .inr _=>none
def f45 (p0_0:ZR) (p1:Int) : Option (List Int×List Int×Int×(ZR)) :=
bif decide (p1 < 0) then
(some (([] : List Int),([] : List Int),7,p0_0))
else
((f82 p0_0 p1).bind fun x3 =>
bif !x3 then
(some (([] : List Int),([] : List Int),8,p0_0))
else
((f90 p0_0 p1 3).bind fun x6 =>
(rng (f45_b0 p0_0 x6) (Int.toNat (List.length p0_0.2.2.1 : Int)) 0 ([] : List Int)).bind fun o13=>match o13 with
| .inl s10=>((f86 p0_0 s10).bind fun x15 =>
(rng (f45_b1 x6 x15) (Int.toNat (List.length x15.2.1 : Int)) 0 ([] : List (Int×Int×Str))).bind fun o22=>match o22 with
| .inl s19=>(some (x6.1,s10,0,(x15.1,s19,x15.2.2.1,x15.2.2.2.1,x15.2.2.2.2)))
| .inr _=>none)
| .inr _=>none))
def f93 (p0:Int) (p1:List (Int×Bool)) : Option (Bool) :=
some ((mget p1 p0).getD false)
def f46_b2 (p31:Int×(Int×Str×List Int)) (i37:Int) (s39:(List (Int×Bool))) : Option (((List (Int×Bool))) ⊕ Unit) :=
(ix p31.2.2.2 i37).bind fun x45 =>
some (.inl (mset s39 x45 true))
def f46_m1 (s8:List (Int×Bool)) (s26:(List (Int×Bool))) (p31:Int×(Int×Str×List Int)) : Option (((List (Int×Bool))) ⊕ Unit) :=
(f66 p31.2.2.2 (fun y1=>f93 y1 s8)).bind fun x34 =>
bif x34 then
((rng (f46_b2 p31) (Int.toNat (List.length p31.2.2.2 : Int)) 0 s26).bind fun o42=>match o42 with
| .inl s39=>(some (.inl s39))
| .inr _=>none)
else
(some (.inl s26))
def f46_m1_q (a b:((List (Int×Bool))) ⊕ Unit) : Prop :=
 match a,b with
 | .inl s26z,.inl s26=>s26z.Perm s26
 | .inr a,.inr b=>b=a
 | _,_=>False
def f46_b0 (p0:ZW) (s:Int×Int×(List (Int×Bool))) : Option ((Int×Int×(List (Int×Bool))) ⊕ ((List (Int×Bool)))) :=
match s with
| (s6,s7,s8)=>(bif (decide (0 < s6))&&(!decide ((List.length s8 : Int)=s7)) then
((zBs s8).bind fun x20 =>
(zBu (f46_m1 s8) x20 p0.2.2.1).bind fun o28=>match o28 with
| .inl s26=>(some (.inl ((w64 (s6 - 1)),(List.length s8 : Int),s26)))
| .inr _=>none)
else
(some (.inr s8)))
def f46 (p0:ZW) (p1:Int) (p2:Int) : Option (Int×List Int) :=
bif decide (p2 < 0) then
(some (7,([] : List Int)))
else
((f50 p0 [p1]).bind fun x3 =>
bif !decide (x3=0) then
(some (x3,([] : List Int)))
else
((lrun (f46_b0 p0) (List.length p0.2.2.1 * 4+4) (p2,(-1),(mset [] p1 true))).bind fun s14=>match s14 with
| s14=>((f52 s14).bind fun x17 =>
some (0,x17))))
def f47_b1 (p0:ZR) (s11:List Int) (i14:Int) (s16:List Int) : Option ((List Int) ⊕ Unit) :=
(((ix p0.2.1 i14).bind fun x25 =>
(f15 s11 x25.1).bind fun x27 =>
bif x27 then
(bif apOk 8 (List.length s16+List.length [x25.1]) then
some (.inl (s16++[x25.1]))
else none)
else
(some (.inl s16))) : Option ((List Int) ⊕ Unit)).bind fun o23=>match o23 with
| .inl s22=>(some (.inl s22))
| .inr _=>none
def f47_b4 (x41:Int×Str×List Int) (s44:Bool) (i50:Int) (s52:List Int) : Option ((List Int) ⊕ Unit) :=
(((ix x41.2.2 i50).bind fun x61 =>
bif (!s44||Option.isSome (f15 s52 x61)) then
bif s44&&(!((f15 s52 x61).getD default)) then
(bif apOk 8 (List.length s52+List.length [x61]) then
some (.inl (s52++[x61]))
else none)
else
(some (.inl s52))
else none) : Option ((List Int) ⊕ Unit)).bind fun o59=>match o59 with
| .inl s58=>(some (.inl s58))
| .inr _=>none
def f47_b3 (s7:List Int) (x41:Int×Str×List Int) (i43:Int) (s44:Bool) : Option (Bool ⊕ Unit) :=
(ix x41.2.2 i43).bind fun x67 =>
bif (!(!s44)||Option.isSome (f15 s7 x67)) then
some (.inl (s44||((f15 s7 x67).getD default)))
else none
def f47_b2 (p0:ZR) (s7:List Int) (i33:Int) (s35:List Int) : Option ((List Int) ⊕ Unit) :=
(ix p0.2.2.1 i33).bind fun x41 =>
(rng (f47_b3 s7 x41) (Int.toNat (List.length x41.2.2 : Int)) 0 false).bind fun o48=>match o48 with
| .inl s44=>((rng (f47_b4 x41 s44) (Int.toNat (List.length x41.2.2 : Int)) 0 s35).bind fun o55=>match o55 with
| .inl s52=>(some (.inl s52))
| .inr _=>none)
| .inr _=>none
def f47_b0 (p0:ZR) (p2:Int) (s:Int×List Int) : Option ((Int×List Int) ⊕ (List Int)) :=
match s with
| (s6,s7)=>(bif decide (s6 < (min p2 (List.length p0.2.1 : Int))) then
(bif apOk 8 (List.length s7) then
(rng (f47_b2 p0 s7) (Int.toNat (List.length p0.2.2.1 : Int)) 0 s7).bind fun o38=>match o38 with
| .inl s35=>(some (.inl ((w64 (s6+1)),s35)))
| .inr _=>none
else none)
else
(some (.inr s7)))
def f47 (p0:ZR) (p1:Int) (p2:Int) : Option (Int×List Int) :=
bif (decide (p1 < 0))||(decide (p2 < 0)) then
(some (7,([] : List Int)))
else
((f82 p0 p1).bind fun x3 =>
bif !x3 then
(some (8,([] : List Int)))
else
((lrun (f47_b0 p0 p2) (List.length p0.2.1+2) (0,[p1])).bind fun s11=>match s11 with
| s11=>((rng (f47_b1 p0 s11) (Int.toNat (List.length p0.2.1 : Int)) 0 ([] : List Int)).bind fun o19=>match o19 with
| .inl s16=>(some (0,s16))
| .inr _=>none)))
def f48 (p0_0:ZR) (p1:Int) (p2:Str) : Option (Int×Int×(ZR)) :=
bif decide (1000 < (List.length p2 : Int)) then
(some (0,1,p0_0))
else
((f91 p1).bind fun x3 =>
bif !x3 then
(some (0,7,p0_0))
else
(bif decide (500≤(List.length p0_0.2.1 : Int)) then
(some (0,4,p0_0))
else
(bif apOk 32 (List.length p0_0.2.1+List.length [(p0_0.2.2.2.1,p1,p2)]) then
some ((w64 ((w64 (p0_0.2.2.2.1+1)) - 1)),0,(p0_0.1,(p0_0.2.1++[(p0_0.2.2.2.1,p1,p2)]),p0_0.2.2.1,(w64 (p0_0.2.2.2.1+1)),p0_0.2.2.2.2))
else none)))
def f11 (p0_0:ZW) (p1_0:ZR) (p2:ZA) : Option (Bool×(ZW)×(ZR)) :=
((bif decide (p2.1=4) then
(some (.inl (decide (p2.1=4))))
else
(bif decide (p2.1=5) then
(some (.inl (decide (p2.1=5))))
else
(bif decide (p2.1=6) then
(some (.inl (decide (p2.1=6))))
else
(bif decide (p2.1=7) then
(some (.inl (decide (p2.1=7))))
else
(some (.inl (decide (p2.1=8)))))))) : Option (Bool ⊕ Unit)).bind fun o4=>match o4 with
| .inl s3=>(bif s3 then
((f24 p0_0 p2.2.2.2.2.2.1 p2.2.2.2.2.2.2.2.2).bind fun x11 =>
(f32 p1_0 p2.2.2.2.2.2.1 p2.2.2.2.2.2.2.2.2).bind fun x13 =>
some ((decide (x11.1=x13.1))&&(decide (x11.2.1=x13.2.1)),x11.2.2,x13.2.2))
else
(bif decide (p2.1=9) then
((f33 p0_0 p2.2.1).bind fun x16 =>
(f34 p1_0 p2.2.1).bind fun x18 =>
some (decide (x16.1=x18.1),x16.2,x18.2))
else
(bif decide (p2.1=10) then
((f17 p0_0 p2.2.1).bind fun x21 =>
(f35 p1_0 p2.2.1).bind fun x23 =>
some (((decide (x21.1.1=x23.1.1))&&((decide (x21.1.2.1=x23.1.2.1))&&(decide (bstr x21.1.2.2=bstr x23.1.2.2))))&&(decide (x21.2=x23.2)),p0_0,p1_0))
else
(bif decide (p2.1=11) then
((f14 p0_0 p2.2.1).bind fun x26 =>
(f36 p1_0 p2.2.1).bind fun x28 =>
bif (!((decide (x26.1.1=x28.1.1))&&(decide (x26.1.2.1=x28.1.2.1)))||Option.isSome (f21 x26.1.2.2 x28.1.2.2)) then
some ((((decide (x26.1.1=x28.1.1))&&(decide (x26.1.2.1=x28.1.2.1)))&&((f21 x26.1.2.2 x28.1.2.2).getD default))&&(decide (x26.2=x28.2)),p0_0,p1_0)
else none)
else
(bif decide (p2.1=12) then
((f19 p0_0 p2.2.1 p2.2.2.2.2.2.1 p2.2.2.2.2.2.2.1).bind fun x32 =>
(f37 p1_0 p2.2.1 p2.2.2.2.2.2.1 p2.2.2.2.2.2.2.1).bind fun x34 =>
(f21 x32.2 x34.2).bind fun x36 =>
some (x36&&(decide (x32.1=x34.1)),p0_0,p1_0))
else
(bif decide (p2.1=13) then
((f38 p0_0 p2.2.1 p2.2.2.2.2.2.1 p2.2.2.2.2.2.2.1 p2.2.2.2.2.2.2.2.1).bind fun x39 =>
(f39 p1_0 p2.2.1 p2.2.2.2.2.2.1 p2.2.2.2.2.2.2.1 p2.2.2.2.2.2.2.2.1).bind fun x41 =>
(f21 x39.2 x41.2).bind fun x43 =>
some (x43&&(decide (x39.1=x41.1)),p0_0,p1_0))
else
(bif decide (p2.1=14) then
((f12 p0_0 p2.2.1 p2.2.2.2.1).bind fun x46 =>
(f40 p1_0 p2.2.1 p2.2.2.2.1).bind fun x48 =>
(f21 x46.1 x48.2.1).bind fun x50 =>
bif (!x50||Option.isSome (f21 x46.2.1 x48.2.2.1)) then
bif (!(x50&&((f21 x46.2.1 x48.2.2.1).getD default))||Option.isSome (f21 x46.2.2.1 x48.2.2.2)) then
some (((x50&&((f21 x46.2.1 x48.2.2.1).getD default))&&((f21 x46.2.2.1 x48.2.2.2).getD default))&&(decide (x46.2.2.2=x48.1)),p0_0,p1_0)
else none
else none)
else
(bif decide (p2.1=15) then
((f18 p0_0 p2.2.1 p2.2.2.1).bind fun x55 =>
(f41 p1_0 p2.2.1 p2.2.2.1).bind fun x57 =>
(f42 x55.1 x57.1).bind fun x59 =>
bif (!x59||Option.isSome (f42 x55.2.1 x57.2.1)) then
some ((x59&&((f42 x55.2.1 x57.2.1).getD default))&&(decide (x55.2.2.1=x57.2.2.1)),x55.2.2.2,x57.2.2.2)
else none)
else
(bif decide (p2.1=16) then
((f43 p0_0 p2.2.1 p2.2.2.1).bind fun x63 =>
(f44 p1_0 p2.2.1 p2.2.2.1).bind fun x65 =>
(f21 x63.1 x65.1).bind fun x67 =>
some (x67&&(decide (x63.2.1=x65.2.1)),x63.2.2,x65.2.2))
else
(bif decide (p2.1=17) then
((f20 p0_0 p2.2.1).bind fun x70 =>
(f45 p1_0 p2.2.1).bind fun x72 =>
(f21 x70.1 x72.1).bind fun x74 =>
bif (!x74||Option.isSome (f21 x70.2.1 x72.2.1)) then
some ((x74&&((f21 x70.2.1 x72.2.1).getD default))&&(decide (x70.2.2.1=x72.2.2.1)),x70.2.2.2,x72.2.2.2)
else none)
else
(bif decide (p2.1=18) then
((f46 p0_0 p2.2.1 p2.2.2.2.1).bind fun x78 =>
(f47 p1_0 p2.2.1 p2.2.2.2.1).bind fun x80 =>
(f21 x78.2 x80.2).bind fun x82 =>
some (x82&&(decide (x78.1=x80.1)),p0_0,p1_0))
else
((f23 p0_0 p2.2.2.1 p2.2.2.2.2.1).bind fun x84 =>
(f48 p1_0 p2.2.2.1 p2.2.2.2.2.1).bind fun x86 =>
some ((decide (x84.1=x86.1))&&(decide (x84.2.1=x86.2.1)),x84.2.2,x86.2.2)))))))))))))
| .inr _=>none
def f3_b3 (x26:List Int×List Int×List Int×Int) (x43:(Int×Str×List Int)×Int) (s47:Bool) (s48:Bool) (i58:Int) (s:Unit) : Option (Unit ⊕ Unit) :=
(ix x43.1.2.2 i58).bind fun x63 =>
bif (!s48||Option.isSome (f15 x26.1 x63)) then
bif (!((!(s48&&(!((f15 x26.1 x63).getD default))))&&s47)||Option.isSome (f15 x26.1 x63)) then
bif (!((!(s48&&(!((f15 x26.1 x63).getD default))))&&(s47&&(!((f15 x26.1 x63).getD default))))||Option.isSome (f15 x26.2.2.1 x63)) then
bif (s48&&(!((f15 x26.1 x63).getD default)))||((s47&&(!((f15 x26.1 x63).getD default)))&&(!((f15 x26.2.2.1 x63).getD default))) then
(some (.inr ()))
else
(some (.inl ()))
else none
else none
else none
def f3_b4 (p3:Int) (x26:List Int×List Int×List Int×Int) (x43:(Int×Str×List Int)×Int) (x74:ZS) (i77:Int) (s:Bool×Bool) : Option ((Bool×Bool) ⊕ Unit) :=
match s with
| (s78,s79)=>((ix x43.1.2.2 i77).bind fun x87 =>
(ix x74.2 i77).bind fun x89 =>
(ix [0,x89.2.2.2.1,x89.2.2.2.2.1,x89.2.2.2.2.2] p3).bind fun x91 =>
bif (!(!s78)||Option.isSome (f15 x26.1 x87)) then
bif (!(!s79)||Option.isSome (f15 x26.1 x87)) then
some (.inl (s78||(((f15 x26.1 x87).getD default)&&(!decide (x91=3))),s79||(((f15 x26.1 x87).getD default)&&(decide (x91=1)))))
else none
else none)
def f3_b2 (p0:List (ZS)) (p3:Int) (x26:List Int×List Int×List Int×Int) (x43:(Int×Str×List Int)×Int) (i46:Int) (s:Bool×Bool) : Option ((Bool×Bool) ⊕ Unit) :=
match s with
| (s47,s48)=>((((ix p0 i46).bind fun x74 =>
bif !decide (x74.1=x43.1.2.1) then
(some (.inl (s47,s48)))
else
((rng (f3_b4 p3 x26 x43 x74) (Int.toNat (List.length x43.1.2.2 : Int)) 0 (s47,s48)).bind fun o84=>match o84 with
| .inl (s78,s79)=>(some (.inl (s78,s79)))
| .inr _=>none)) : Option ((Bool×Bool) ⊕ Unit)).bind fun o72=>match o72 with
| .inl (s70,s71)=>(some (.inl (s70,s71)))
| .inr _=>none)
def f3_b1 (p0:List (ZS)) (p3:Int) (x24:ZW) (x26:List Int×List Int×List Int×Int) (x31:List Int) (i33:Int) (s:Unit) : Option (Unit ⊕ Unit) :=
(ix x31 i33).bind fun x41 =>
(f14 x24 x41).bind fun x43 =>
bif !decide (x43.2=0) then
(some (.inr ()))
else
((rng (f3_b2 p0 p3 x26 x43) (Int.toNat (List.length p0 : Int)) 0 (false,false)).bind fun o53=>match o53 with
| .inl (s47,s48)=>((f15 x26.2.1 x41).bind fun x55 =>
bif !decide (s47=x55) then
(some (.inr ()))
else
((rng (f3_b3 x26 x43 s47 s48) (Int.toNat (List.length x43.1.2.2 : Int)) 0 ()).bind fun o60=>match o60 with
| .inl ()=>(some (.inl ()))
| .inr ()=>(some (.inr ()))))
| .inr _=>none)
def f3_b7 (x97:List Int×List Int×List Int×Int) (x114:(Int×Str×List Int)×Int) (s118:Bool) (s119:Bool) (i129:Int) (s:Unit) : Option (Unit ⊕ Unit) :=
(ix x114.1.2.2 i129).bind fun x134 =>
bif (!s119||Option.isSome (f15 x97.1 x134)) then
bif (!((!(s119&&(!((f15 x97.1 x134).getD default))))&&s118)||Option.isSome (f15 x97.1 x134)) then
bif (!((!(s119&&(!((f15 x97.1 x134).getD default))))&&(s118&&(!((f15 x97.1 x134).getD default))))||Option.isSome (f15 x97.2.2.1 x134)) then
bif (s119&&(!((f15 x97.1 x134).getD default)))||((s118&&(!((f15 x97.1 x134).getD default)))&&(!((f15 x97.2.2.1 x134).getD default))) then
(some (.inr ()))
else
(some (.inl ()))
else none
else none
else none
def f3_b8 (p3:Int) (x97:List Int×List Int×List Int×Int) (x114:(Int×Str×List Int)×Int) (x145:ZS) (i148:Int) (s:Bool×Bool) : Option ((Bool×Bool) ⊕ Unit) :=
match s with
| (s149,s150)=>((ix x114.1.2.2 i148).bind fun x158 =>
(ix x145.2 i148).bind fun x160 =>
(ix [0,x160.2.2.2.1,x160.2.2.2.2.1,x160.2.2.2.2.2] p3).bind fun x162 =>
bif (!(!s149)||Option.isSome (f15 x97.1 x158)) then
bif (!(!s150)||Option.isSome (f15 x97.1 x158)) then
some (.inl (s149||(((f15 x97.1 x158).getD default)&&(!decide (x162=3))),s150||(((f15 x97.1 x158).getD default)&&(decide (x162=1)))))
else none
else none)
def f3_b6 (p0:List (ZS)) (p3:Int) (x97:List Int×List Int×List Int×Int) (x114:(Int×Str×List Int)×Int) (i117:Int) (s:Bool×Bool) : Option ((Bool×Bool) ⊕ Unit) :=
match s with
| (s118,s119)=>((((ix p0 i117).bind fun x145 =>
bif !decide (x145.1=x114.1.2.1) then
(some (.inl (s118,s119)))
else
((rng (f3_b8 p3 x97 x114 x145) (Int.toNat (List.length x114.1.2.2 : Int)) 0 (s118,s119)).bind fun o155=>match o155 with
| .inl (s149,s150)=>(some (.inl (s149,s150)))
| .inr _=>none)) : Option ((Bool×Bool) ⊕ Unit)).bind fun o143=>match o143 with
| .inl (s141,s142)=>(some (.inl (s141,s142)))
| .inr _=>none)
def f3_b5 (p0:List (ZS)) (p3:Int) (x95:ZW) (x97:List Int×List Int×List Int×Int) (x102:List Int) (i104:Int) (s:Unit) : Option (Unit ⊕ Unit) :=
(ix x102 i104).bind fun x112 =>
(f14 x95 x112).bind fun x114 =>
bif !decide (x114.2=0) then
(some (.inr ()))
else
((rng (f3_b6 p0 p3 x97 x114) (Int.toNat (List.length p0 : Int)) 0 (false,false)).bind fun o124=>match o124 with
| .inl (s118,s119)=>((f15 x97.2.1 x112).bind fun x126 =>
bif !decide (s118=x126) then
(some (.inr ()))
else
((rng (f3_b7 x97 x114 s118 s119) (Int.toNat (List.length x114.1.2.2 : Int)) 0 ()).bind fun o131=>match o131 with
| .inl ()=>(some (.inl ()))
| .inr ()=>(some (.inr ()))))
| .inr _=>none)
def f3_b0 (p1:List (ZA)) (i13:Int) (s:(Option (ZW))×(Option (ZR))) : Option (((Option (ZW))×(Option (ZR))) ⊕ ((Option (ZW)))) :=
match s with
| (s15,s16)=>((ix p1 i13).bind fun x167 =>
(s16).bind fun x169 =>
(f10 x169).bind fun x171 =>
bif x171 then
(some (.inr s15))
else
((s15).bind fun x174 =>
(f11 x174 x169 x167).bind fun x176 =>
some (.inl ((some x176.2.1),(some x176.2.2)))))
def f3 (p0:List (ZS)) (p1:List (ZA)) (p2:Int) (p3:Int) : Option (Bool) :=
(f6 p0 p1).bind fun x1 =>
bif !x1 then
((f7).bind fun x4 =>
some x4)
else
((f8 p0).bind fun x6 =>
(f9 p0).bind fun x8 =>
bif !decide (x6.1=0) then
((f7).bind fun x11 =>
some x11)
else
((rng (f3_b0 p1) (Int.toNat (List.length p1 : Int)) 0 (x6.2,x8.2)).bind fun o22=>match o22 with
| .inl (s15,s16)=>((s15).bind fun x24 =>
(f12 x24 p2 p3).bind fun x26 =>
bif !decide (x26.2.2.2=0) then
((f7).bind fun x29 =>
some x29)
else
((f13 x24).bind fun x31 =>
(rng (f3_b1 p0 p3 x24 x26 x31) (Int.toNat (List.length x31 : Int)) 0 ()).bind fun o35=>match o35 with
| .inl ()=>((f15 x26.1 p2).bind fun x37 =>
bif (!x37||Option.isSome (f7)) then
some (x37&&((f7).getD default))
else none)
| .inr ()=>(some false)))
| .inr s20=>((s20).bind fun x95 =>
(f12 x95 p2 p3).bind fun x97 =>
bif !decide (x97.2.2.2=0) then
((f7).bind fun x100 =>
some x100)
else
((f13 x95).bind fun x102 =>
(rng (f3_b5 p0 p3 x95 x97 x102) (Int.toNat (List.length x102 : Int)) 0 ()).bind fun o106=>match o106 with
| .inl ()=>((f15 x97.1 p2).bind fun x108 =>
bif (!x108||Option.isSome (f7)) then
some (x108&&((f7).getD default))
else none)
| .inr ()=>(some false)))))
def f16 (p0:ZW) : Option (List Int) :=
(zBs p0.2.1).bind fun x2 =>
(skeys x2).bind fun x4 =>
some x4
def f4_b7 (x37:(List (Int×Int))×(List (Int×Int))×Int×(ZW)) (x61:ZS) (x68:ZO) (x70:List Int) (i72:Int) (s:Unit) : Option (Unit ⊕ Unit) :=
(ix x70 i72).bind fun x77 =>
(f19 x37.2.2.2 x77 x61.1 x68.1).bind fun x79 =>
bif (!decide (x79.1=0))||((decide (0 < x68.2.2.1))&&(decide (x68.2.2.1 < (List.length x79.2 : Int)))) then
(some (.inr ()))
else
(some (.inl ()))
def f4_b6 (x37:(List (Int×Int))×(List (Int×Int))×Int×(ZW)) (x61:ZS) (i63:Int) (s:Unit) : Option (Unit ⊕ Unit) :=
(ix x61.2 i63).bind fun x68 =>
(f16 x37.2.2.2).bind fun x70 =>
(rng (f4_b7 x37 x61 x68 x70) (Int.toNat (List.length x70 : Int)) 0 ()).bind fun o74=>match o74 with
| .inl ()=>(some (.inl ()))
| .inr ()=>(some (.inr ()))
def f4_b5 (p0:List (ZS)) (x37:(List (Int×Int))×(List (Int×Int))×Int×(ZW)) (i54:Int) (s:Unit) : Option (Unit ⊕ Unit) :=
(ix p0 i54).bind fun x61 =>
(rng (f4_b6 x37 x61) (Int.toNat (List.length x61.2 : Int)) 0 ()).bind fun o65=>match o65 with
| .inl ()=>(some (.inl ()))
| .inr ()=>(some (.inr ()))
def f4_b9 (x37:(List (Int×Int))×(List (Int×Int))×Int×(ZW)) (x97:Int) (i99:Int) (s100:Int) : Option (Int ⊕ Unit) :=
(((ix x37.1 i99).bind fun x114 =>
bif decide (x114.1=x97) then
(some (.inl x114.2))
else
(some (.inl s100))) : Option (Int ⊕ Unit)).bind fun o112=>match o112 with
| .inl s111=>(some (.inl s111))
| .inr _=>none
def f4_b8 (x35:List Int×List Int×List Int×Int) (x37:(List (Int×Int))×(List (Int×Int))×Int×(ZW)) (x85:(Int×Str×List Int)×Int) (x87:(Int×Str×List Int)×Int) (i92:Int) (s:Unit) : Option (Unit ⊕ Unit) :=
(ix x85.1.2.2 i92).bind fun x97 =>
(rng (f4_b9 x37 x97) (Int.toNat (List.length x37.1 : Int)) 0 x97).bind fun o104=>match o104 with
| .inl s100=>((ix x87.1.2.2 i92).bind fun x106 =>
bif (!((!(!decide (x106=s100)))&&(decide (s100=x97)))||Option.isSome (f15 x35.2.2.1 x97)) then
bif (!decide (x106=s100))||((decide (s100=x97))&&(!((f15 x35.2.2.1 x97).getD default))) then
(some (.inr ()))
else
(some (.inl ()))
else none)
| .inr _=>none
def f4_b4 (x35:List Int×List Int×List Int×Int) (x37:(List (Int×Int))×(List (Int×Int))×Int×(ZW)) (i50:Int) (s:Unit) : Option (Unit ⊕ Unit) :=
(ix x37.2.1 i50).bind fun x83 =>
(f14 x37.2.2.2 x83.1).bind fun x85 =>
(f14 x37.2.2.2 x83.2).bind fun x87 =>
(ix x35.2.1 i50).bind fun x89 =>
bif ((((!decide (x83.1=x89))||(!decide (x85.2=0)))||(!decide (x87.2=0)))||(!decide (x87.1.2.1=x85.1.2.1)))||(!decide ((List.length x87.1.2.2 : Int)=(List.length x85.1.2.2 : Int))) then
(some (.inr ()))
else
((rng (f4_b8 x35 x37 x85 x87) (Int.toNat (List.length x85.1.2.2 : Int)) 0 ()).bind fun o94=>match o94 with
| .inl ()=>(some (.inl ()))
| .inr ()=>(some (.inr ())))
def f4_b3 (p3:Int) (x35:List Int×List Int×List Int×Int) (x37:(List (Int×Int))×(List (Int×Int))×Int×(ZW)) (i46:Int) (s:Unit) : Option (Unit ⊕ Unit) :=
(ix x37.1 i46).bind fun x118 =>
(f17 x37.2.2.2 x118.1).bind fun x120 =>
(f17 x37.2.2.2 x118.2).bind fun x122 =>
(ix x35.1 i46).bind fun x124 =>
bif ((((!decide (x118.1=x124))||(!decide (x120.2=0)))||(!decide (x122.2=0)))||(!decide (x122.1.2.1=p3)))||(!decide (x122.1.2.2=x120.1.2.2)) then
(some (.inr ()))
else
(some (.inl ()))
def f4_b2 (s30:List (Int×Int×Str)) (x37:(List (Int×Int))×(List (Int×Int))×Int×(ZW)) (i42:Int) (s:Unit) : Option (Unit ⊕ Unit) :=
(ix s30 i42).bind fun x128 =>
(f17 x37.2.2.2 x128.1).bind fun x130 =>
bif (!decide (x130.2=0))||(!((decide (x130.1.1=x128.1))&&((decide (x130.1.2.1=x128.2.1))&&(decide (bstr x130.1.2.2=bstr x128.2.2))))) then
(some (.inr ()))
else
(some (.inl ()))
def f4_b1 (x24:ZW) (x26:List Int) (i28:Int) (s30:(List (Int×Int×Str))) : Option (((List (Int×Int×Str))) ⊕ Unit) :=
(ix x26 i28).bind fun x134 =>
(f17 x24 x134).bind fun x136 =>
bif apOk 32 (List.length s30+List.length [x136.1]) then
some (.inl (s30++[x136.1]))
else none
def f4_b16 (x152:(List (Int×Int))×(List (Int×Int))×Int×(ZW)) (x176:ZS) (x183:ZO) (x185:List Int) (i187:Int) (s:Unit) : Option (Unit ⊕ Unit) :=
(ix x185 i187).bind fun x192 =>
(f19 x152.2.2.2 x192 x176.1 x183.1).bind fun x194 =>
bif (!decide (x194.1=0))||((decide (0 < x183.2.2.1))&&(decide (x183.2.2.1 < (List.length x194.2 : Int)))) then
(some (.inr ()))
else
(some (.inl ()))
def f4_b15 (x152:(List (Int×Int))×(List (Int×Int))×Int×(ZW)) (x176:ZS) (i178:Int) (s:Unit) : Option (Unit ⊕ Unit) :=
(ix x176.2 i178).bind fun x183 =>
(f16 x152.2.2.2).bind fun x185 =>
(rng (f4_b16 x152 x176 x183 x185) (Int.toNat (List.length x185 : Int)) 0 ()).bind fun o189=>match o189 with
| .inl ()=>(some (.inl ()))
| .inr ()=>(some (.inr ()))
def f4_b14 (p0:List (ZS)) (x152:(List (Int×Int))×(List (Int×Int))×Int×(ZW)) (i169:Int) (s:Unit) : Option (Unit ⊕ Unit) :=
(ix p0 i169).bind fun x176 =>
(rng (f4_b15 x152 x176) (Int.toNat (List.length x176.2 : Int)) 0 ()).bind fun o180=>match o180 with
| .inl ()=>(some (.inl ()))
| .inr ()=>(some (.inr ()))
def f4_b18 (x152:(List (Int×Int))×(List (Int×Int))×Int×(ZW)) (x212:Int) (i214:Int) (s215:Int) : Option (Int ⊕ Unit) :=
(((ix x152.1 i214).bind fun x229 =>
bif decide (x229.1=x212) then
(some (.inl x229.2))
else
(some (.inl s215))) : Option (Int ⊕ Unit)).bind fun o227=>match o227 with
| .inl s226=>(some (.inl s226))
| .inr _=>none
def f4_b17 (x150:List Int×List Int×List Int×Int) (x152:(List (Int×Int))×(List (Int×Int))×Int×(ZW)) (x200:(Int×Str×List Int)×Int) (x202:(Int×Str×List Int)×Int) (i207:Int) (s:Unit) : Option (Unit ⊕ Unit) :=
(ix x200.1.2.2 i207).bind fun x212 =>
(rng (f4_b18 x152 x212) (Int.toNat (List.length x152.1 : Int)) 0 x212).bind fun o219=>match o219 with
| .inl s215=>((ix x202.1.2.2 i207).bind fun x221 =>
bif (!((!(!decide (x221=s215)))&&(decide (s215=x212)))||Option.isSome (f15 x150.2.2.1 x212)) then
bif (!decide (x221=s215))||((decide (s215=x212))&&(!((f15 x150.2.2.1 x212).getD default))) then
(some (.inr ()))
else
(some (.inl ()))
else none)
| .inr _=>none
def f4_b13 (x150:List Int×List Int×List Int×Int) (x152:(List (Int×Int))×(List (Int×Int))×Int×(ZW)) (i165:Int) (s:Unit) : Option (Unit ⊕ Unit) :=
(ix x152.2.1 i165).bind fun x198 =>
(f14 x152.2.2.2 x198.1).bind fun x200 =>
(f14 x152.2.2.2 x198.2).bind fun x202 =>
(ix x150.2.1 i165).bind fun x204 =>
bif ((((!decide (x198.1=x204))||(!decide (x200.2=0)))||(!decide (x202.2=0)))||(!decide (x202.1.2.1=x200.1.2.1)))||(!decide ((List.length x202.1.2.2 : Int)=(List.length x200.1.2.2 : Int))) then
(some (.inr ()))
else
((rng (f4_b17 x150 x152 x200 x202) (Int.toNat (List.length x200.1.2.2 : Int)) 0 ()).bind fun o209=>match o209 with
| .inl ()=>(some (.inl ()))
| .inr ()=>(some (.inr ())))
def f4_b12 (p3:Int) (x150:List Int×List Int×List Int×Int) (x152:(List (Int×Int))×(List (Int×Int))×Int×(ZW)) (i161:Int) (s:Unit) : Option (Unit ⊕ Unit) :=
(ix x152.1 i161).bind fun x233 =>
(f17 x152.2.2.2 x233.1).bind fun x235 =>
(f17 x152.2.2.2 x233.2).bind fun x237 =>
(ix x150.1 i161).bind fun x239 =>
bif ((((!decide (x233.1=x239))||(!decide (x235.2=0)))||(!decide (x237.2=0)))||(!decide (x237.1.2.1=p3)))||(!decide (x237.1.2.2=x235.1.2.2)) then
(some (.inr ()))
else
(some (.inl ()))
def f4_b11 (s145:List (Int×Int×Str)) (x152:(List (Int×Int))×(List (Int×Int))×Int×(ZW)) (i157:Int) (s:Unit) : Option (Unit ⊕ Unit) :=
(ix s145 i157).bind fun x243 =>
(f17 x152.2.2.2 x243.1).bind fun x245 =>
bif (!decide (x245.2=0))||(!((decide (x245.1.1=x243.1))&&((decide (x245.1.2.1=x243.2.1))&&(decide (bstr x245.1.2.2=bstr x243.2.2))))) then
(some (.inr ()))
else
(some (.inl ()))
def f4_b10 (x139:ZW) (x141:List Int) (i143:Int) (s145:(List (Int×Int×Str))) : Option (((List (Int×Int×Str))) ⊕ Unit) :=
(ix x141 i143).bind fun x249 =>
(f17 x139 x249).bind fun x251 =>
bif apOk 32 (List.length s145+List.length [x251.1]) then
some (.inl (s145++[x251.1]))
else none
def f4_b0 (p1:List (ZA)) (i13:Int) (s:(Option (ZW))×(Option (ZR))) : Option (((Option (ZW))×(Option (ZR))) ⊕ ((Option (ZW)))) :=
match s with
| (s15,s16)=>((ix p1 i13).bind fun x255 =>
(s16).bind fun x257 =>
(f10 x257).bind fun x259 =>
bif x259 then
(some (.inr s15))
else
((s15).bind fun x262 =>
(f11 x262 x257 x255).bind fun x264 =>
some (.inl ((some x264.2.1),(some x264.2.2)))))
def f4 (p0:List (ZS)) (p1:List (ZA)) (p2:Int) (p3:Int) : Option (Bool) :=
(f6 p0 p1).bind fun x1 =>
bif !x1 then
((f7).bind fun x4 =>
some x4)
else
((f8 p0).bind fun x6 =>
(f9 p0).bind fun x8 =>
bif !decide (x6.1=0) then
((f7).bind fun x11 =>
some x11)
else
((rng (f4_b0 p1) (Int.toNat (List.length p1 : Int)) 0 (x6.2,x8.2)).bind fun o22=>match o22 with
| .inl (s15,s16)=>((s15).bind fun x24 =>
(f16 x24).bind fun x26 =>
(rng (f4_b1 x24 x26) (Int.toNat (List.length x26 : Int)) 0 ([] : List (Int×Int×Str))).bind fun o33=>match o33 with
| .inl s30=>((f12 x24 p2 1).bind fun x35 =>
(f18 x24 p2 p3).bind fun x37 =>
bif !decide (x37.2.2.1=0) then
(bif (!((((!decide (x35.2.2.2=0))||(decide (x37.2.2.1=9)))||(decide (x37.2.2.1=7)))||(decide (x37.2.2.1=4)))||Option.isSome (f7)) then
some (((((!decide (x35.2.2.2=0))||(decide (x37.2.2.1=9)))||(decide (x37.2.2.1=7)))||(decide (x37.2.2.1=4)))&&((f7).getD default))
else none)
else
(bif ((!decide (x35.2.2.2=0))||(!decide ((List.length x37.1 : Int)=(List.length x35.1 : Int))))||(!decide ((List.length x37.2.1 : Int)=(List.length x35.2.1 : Int))) then
(some false)
else
((rng (f4_b2 s30 x37) (Int.toNat (List.length s30 : Int)) 0 ()).bind fun o44=>match o44 with
| .inl ()=>((rng (f4_b3 p3 x35 x37) (Int.toNat (List.length x37.1 : Int)) 0 ()).bind fun o48=>match o48 with
| .inl ()=>((rng (f4_b4 x35 x37) (Int.toNat (List.length x37.2.1 : Int)) 0 ()).bind fun o52=>match o52 with
| .inl ()=>((rng (f4_b5 p0 x37) (Int.toNat (List.length p0 : Int)) 0 ()).bind fun o56=>match o56 with
| .inl ()=>((f7).bind fun x58 =>
some x58)
| .inr ()=>(some false))
| .inr ()=>(some false))
| .inr ()=>(some false))
| .inr ()=>(some false))))
| .inr _=>none)
| .inr s20=>((s20).bind fun x139 =>
(f16 x139).bind fun x141 =>
(rng (f4_b10 x139 x141) (Int.toNat (List.length x141 : Int)) 0 ([] : List (Int×Int×Str))).bind fun o148=>match o148 with
| .inl s145=>((f12 x139 p2 1).bind fun x150 =>
(f18 x139 p2 p3).bind fun x152 =>
bif !decide (x152.2.2.1=0) then
(bif (!((((!decide (x150.2.2.2=0))||(decide (x152.2.2.1=9)))||(decide (x152.2.2.1=7)))||(decide (x152.2.2.1=4)))||Option.isSome (f7)) then
some (((((!decide (x150.2.2.2=0))||(decide (x152.2.2.1=9)))||(decide (x152.2.2.1=7)))||(decide (x152.2.2.1=4)))&&((f7).getD default))
else none)
else
(bif ((!decide (x150.2.2.2=0))||(!decide ((List.length x152.1 : Int)=(List.length x150.1 : Int))))||(!decide ((List.length x152.2.1 : Int)=(List.length x150.2.1 : Int))) then
(some false)
else
((rng (f4_b11 s145 x152) (Int.toNat (List.length s145 : Int)) 0 ()).bind fun o159=>match o159 with
| .inl ()=>((rng (f4_b12 p3 x150 x152) (Int.toNat (List.length x152.1 : Int)) 0 ()).bind fun o163=>match o163 with
| .inl ()=>((rng (f4_b13 x150 x152) (Int.toNat (List.length x152.2.1 : Int)) 0 ()).bind fun o167=>match o167 with
| .inl ()=>((rng (f4_b14 p0 x152) (Int.toNat (List.length p0 : Int)) 0 ()).bind fun o171=>match o171 with
| .inl ()=>((f7).bind fun x173 =>
some x173)
| .inr ()=>(some false))
| .inr ()=>(some false))
| .inr ()=>(some false))
| .inr ()=>(some false))))
| .inr _=>none)))
def f5_b2 (x28:List Int×List Int×Int×(ZW)) (x32:List Int) (x45:(Int×Str×List Int)×Int) (i48:Int) (s:Unit) : Option (Unit ⊕ Unit) :=
(ix x45.1.2.2 i48).bind fun x53 =>
(f15 x32 x53).bind fun x55 =>
bif (!(!(!x55))||Option.isSome (f15 x28.1 x53)) then
bif (!x55)||((f15 x28.1 x53).getD default) then
(some (.inr ()))
else
(some (.inl ()))
else none
def f5_b1 (x28:List Int×List Int×Int×(ZW)) (x32:List Int) (x34:List Int) (i36:Int) (s:Unit) : Option (Unit ⊕ Unit) :=
(ix x34 i36).bind fun x43 =>
(f14 x28.2.2.2 x43).bind fun x45 =>
bif !decide (x45.2=0) then
(some (.inr ()))
else
((rng (f5_b2 x28 x32 x45) (Int.toNat (List.length x45.1.2.2 : Int)) 0 ()).bind fun o50=>match o50 with
| .inl ()=>(some (.inl ()))
| .inr ()=>(some (.inr ())))
def f5_b4 (x63:List Int×List Int×Int×(ZW)) (x67:List Int) (x80:(Int×Str×List Int)×Int) (i83:Int) (s:Unit) : Option (Unit ⊕ Unit) :=
(ix x80.1.2.2 i83).bind fun x88 =>
(f15 x67 x88).bind fun x90 =>
bif (!(!(!x90))||Option.isSome (f15 x63.1 x88)) then
bif (!x90)||((f15 x63.1 x88).getD default) then
(some (.inr ()))
else
(some (.inl ()))
else none
def f5_b3 (x63:List Int×List Int×Int×(ZW)) (x67:List Int) (x69:List Int) (i71:Int) (s:Unit) : Option (Unit ⊕ Unit) :=
(ix x69 i71).bind fun x78 =>
(f14 x63.2.2.2 x78).bind fun x80 =>
bif !decide (x80.2=0) then
(some (.inr ()))
else
((rng (f5_b4 x63 x67 x80) (Int.toNat (List.length x80.1.2.2 : Int)) 0 ()).bind fun o85=>match o85 with
| .inl ()=>(some (.inl ()))
| .inr ()=>(some (.inr ())))
def f5_b0 (p1:List (ZA)) (i13:Int) (s:(Option (ZW))×(Option (ZR))) : Option (((Option (ZW))×(Option (ZR))) ⊕ ((Option (ZW)))) :=
match s with
| (s15,s16)=>((ix p1 i13).bind fun x95 =>
(s16).bind fun x97 =>
(f10 x97).bind fun x99 =>
bif x99 then
(some (.inr s15))
else
((s15).bind fun x102 =>
(f11 x102 x97 x95).bind fun x104 =>
some (.inl ((some x104.2.1),(some x104.2.2)))))
def f5 (p0:List (ZS)) (p1:List (ZA)) (p2:Int) : Option (Bool) :=
(f6 p0 p1).bind fun x1 =>
bif !x1 then
((f7).bind fun x4 =>
some x4)
else
((f8 p0).bind fun x6 =>
(f9 p0).bind fun x8 =>
bif !decide (x6.1=0) then
((f7).bind fun x11 =>
some x11)
else
((rng (f5_b0 p1) (Int.toNat (List.length p1 : Int)) 0 (x6.2,x8.2)).bind fun o22=>match o22 with
| .inl (s15,s16)=>((s15).bind fun x24 =>
(f12 x24 p2 3).bind fun x26 =>
(f20 x24 p2).bind fun x28 =>
bif (!(!(!decide (x26.2.2.2=x28.2.2.1)))||Option.isSome (f21 x26.1 x28.1)) then
bif (!decide (x26.2.2.2=x28.2.2.1))||(!((f21 x26.1 x28.1).getD default)) then
(some false)
else
((f16 x28.2.2.2).bind fun x32 =>
(f13 x28.2.2.2).bind fun x34 =>
(rng (f5_b1 x28 x32 x34) (Int.toNat (List.length x34 : Int)) 0 ()).bind fun o38=>match o38 with
| .inl ()=>((f7).bind fun x40 =>
some x40)
| .inr ()=>(some false))
else none)
| .inr s20=>((s20).bind fun x59 =>
(f12 x59 p2 3).bind fun x61 =>
(f20 x59 p2).bind fun x63 =>
bif (!(!(!decide (x61.2.2.2=x63.2.2.1)))||Option.isSome (f21 x61.1 x63.1)) then
bif (!decide (x61.2.2.2=x63.2.2.1))||(!((f21 x61.1 x63.1).getD default)) then
(some false)
else
((f16 x63.2.2.2).bind fun x67 =>
(f13 x63.2.2.2).bind fun x69 =>
(rng (f5_b3 x63 x67 x69) (Int.toNat (List.length x69 : Int)) 0 ()).bind fun o73=>match o73 with
| .inl ()=>((f7).bind fun x75 =>
some x75)
| .inr ()=>(some false))
else none)))
end Go.Ab
namespace Go.Ab
theorem mfold_perm {S α U:Type}{E:S→S→Prop}{I:S→Prop}{g:S→α→Option (S ⊕ Unit)}(ks:α→Option U) (step:U→S→S) (hg:∀ s p,g s p=(ks p).map fun u=>.inl (step u s)) (refl:∀ s,E s s) (trans:∀ {a b c},E a b→E b c→E a c)
  (hI:∀ u s,I s→I (step u s)) (hc:∀ u s s',I s→I s'→E s s'→E (step u s) (step u s')) (hm:∀ u v s,I s→E (step u (step v s)) (step v (step u s))) {x:List α} :
  ∀ {l:List α},l.Perm x→∀ {s s':S} {o:S ⊕ Unit},I s→I s'→E s' s→zBu g s x=some o→∃ s1 s2,o=.inl s1∧zBu g s' l=some (.inl s2)∧E s2 s1∧I s1∧I s2:=by
 intro l h
 induction h with
 | nil=>intro s s' o hs hs' he h; simp only [zBu,Option.some.injEq] at h ⊢; subst h; exact ⟨s,s',rfl,rfl,he,hs,hs'⟩
 | cons p _ ih =>
  intro s s' o hs hs' he h
  simp only [zBu,hg] at h ⊢
  cases hk : ks p with
  | none=>rw [hk] at h; simp at h
  | some u =>
   rw [hk] at h
   simp only [Option.map_some,Option.bind_some] at h ⊢
   exact ih (hI u s hs) (hI u s' hs') (hc u s' s hs' hs he) h
 | swap p q l =>
  intro s s' o hs hs' he h
  simp only [zBu,hg] at h ⊢
  cases hk : ks p with
  | none=>rw [hk] at h; cases hk2 : ks q <;> simp [hk2] at h
  | some u =>
   cases hk2 : ks q with
   | none=>rw [hk,hk2] at h; simp at h
   | some v =>
    rw [hk,hk2] at h
    simp only [Option.map_some,Option.bind_some] at h ⊢
    have key : ∀ (l:List α) {s s':S} {o:S ⊕ Unit},I s→I s'→E s' s→zBu g s l=some o→∃ s1 s2,o=.inl s1∧zBu g s' l=some (.inl s2)∧E s2 s1∧I s1∧I s2:=by
     intro l
     induction l with
     | nil=>intro s s' o hs hs' he h; simp only [zBu,Option.some.injEq] at h ⊢; subst h; exact ⟨s,s',rfl,rfl,he,hs,hs'⟩
     | cons r l ihl =>
      intro s s' o hs hs' he h
      simp only [zBu,hg] at h ⊢
      cases hk : ks r with
      | none=>rw [hk] at h; simp at h
      | some w =>
       rw [hk] at h
       simp only [Option.map_some,Option.bind_some] at h ⊢
       exact ihl (hI w s hs) (hI w s' hs') (hc w s' s hs' hs he) h
    refine key l (hI _ _ (hI _ _ hs)) (hI _ _ (hI _ _ hs')) (trans (hm _ _ _ hs') ?_) h
    exact hc _ _ _ (hI _ _ hs') (hI _ _ hs) (hc _ _ _ hs' hs he)
 | trans h1 h2 ih1 ih2 =>
  intro s s' o hs hs' he h
  obtain ⟨s1,s2,rfl,h3,h4,h5,h6⟩:=ih2 hs hs (refl s) h
  obtain ⟨s3,s4,e3,h7,h8,h9,h10⟩:=ih1 hs hs' he h3
  cases e3
  exact ⟨s1,s4,rfl,h7,trans h8 h4,h5,h10⟩

section
open Go.Eng
variable {P:Program} {N:Ev} {X:Cx} {Q:zBa} {st:AS} {c:Code}
theorem awc_nd {i:Nat}{tk tv:Ty}{x:List (tk.den×tv.den)}(hi:Nat.blt i st.n=true) (hH:st.H.get i=.map tk tv x) (k:(x.map (·.1)).Nodup→AWC P N X c Q st) : AWC P N X c Q st:=by
 intro fr w m ρ φ hc
 have hil : i < ρ.length:=by rw [hc.nρ]; simpa using hi
 obtain ⟨f,hf,ho,hw⟩:=hc.obj (List.getElem?_eq_getElem hil)
 rw [hH] at ho
 obtain ⟨x',hp,b,es,cl,_,_,_,h2,_⟩:=ho
 exact k ((hp.map _).nodup_iff.1 h2) fr w m ρ φ hc
theorem awc_ndR {i j:Nat}{tk tv:Ty}{x l:List (tk.den×tv.den)}{cu:Option (tk.den×tv.den)}(hi:Nat.blt i st.n=true) (hH:st.H.get i=.mapr tk tv x l cu j) (k:(x.map (·.1)).Nodup→AWC P N X c Q st) : AWC P N X c Q st:=by
 intro fr w m ρ φ hc
 have hil : i < ρ.length:=by rw [hc.nρ]; simpa using hi
 obtain ⟨f,hf,ho,hw⟩:=hc.obj (List.getElem?_eq_getElem hil)
 rw [hH] at ho
 obtain ⟨x',hp,b,es,cl,r,s1,s2,s3,_,_,_,h2,_⟩:=ho
 exact k ((hp.map _).nodup_iff.1 h2.2.1) fr w m ρ φ hc
end
def zC {α β:Type}(s:List (α×β)) : Prop:=(s.map (·.1)).Nodup
def ins (u:List Int) (s:List (Int×Bool)) : List (Int×Bool):=u.foldl (fun s k=>mset s k true) s
theorem ins_nodup : ∀ (u:List Int) (s:List (Int×Bool)),zC s→zC (ins u s):=by
 intro u
 induction u with
 | nil=>intro s h; exact h
 | cons k u ih=>intro s h; exact ih _ (zBZ k true h)
theorem ins_perm : ∀ (u:List Int) (s s':List (Int×Bool)),zC s→zC s'→s.Perm s'→(ins u s).Perm (ins u s'):=by
 intro u
 induction u with
 | nil=>intro s s' _ _ h; exact h
 | cons k u ih=>intro s s' h h' hp; exact ih _ _ (zBZ k true h) (zBZ k true h') (mset_perm hp h k true)
theorem mset_comm {α β:Type} [DecidableEq α] {j k:α}{v:β} : ∀ (s:List (α×β)),(mset (mset s j v) k v).Perm (mset (mset s k v) j v):=by
 intro s
 by_cases h : j=k
 ·subst h; exact List.Perm.refl _
 induction s with
 | nil=>simp only [mset,if_neg h,if_neg (Ne.symm h)]; exact List.Perm.swap _ _ _
 | cons p s ih =>
  by_cases h1 : j=p.1
  ·by_cases h2 : k=p.1
   ·exact absurd (h1.trans h2.symm) h
   simp only [mset,if_pos h1,if_neg h2,if_neg (show ¬ k=j from fun e=>h e.symm)]; exact List.Perm.refl _
  by_cases h2 : k=p.1
  ·simp only [mset,if_neg h1,if_pos h2,if_neg h]; exact List.Perm.refl _
  simp only [mset,if_neg h1,if_neg h2]; exact List.Perm.cons _ ih
theorem ins_mset (k:Int) : ∀ (u:List Int) (s:List (Int×Bool)),zC s→(ins u (mset s k true)).Perm (mset (ins u s) k true):=by
 intro u
 induction u with
 | nil=>intro s _; exact List.Perm.refl _
 | cons j u ih =>
  intro s h
  exact (ins_perm u _ _ (zBZ _ _ (zBZ _ _ h)) (zBZ _ _ (zBZ _ _ h)) (mset_comm s)).trans (ih _ (zBZ _ _ h))
theorem ins_comm : ∀ (u v:List Int) (s:List (Int×Bool)),zC s→(ins u (ins v s)).Perm (ins v (ins u s)):=by
 intro u v
 induction v with
 | nil=>intro s _; exact List.Perm.refl _
 | cons k v ih =>
  intro s h
  refine (ih _ (zBZ k true h)).trans ?_
  exact ins_perm v _ _ (ins_nodup u _ (zBZ k true h)) (zBZ k true (ins_nodup u _ h)) (ins_mset k u s h)
theorem fold_ins {α:Type}{g:List (Int×Bool)→α→Option (List (Int×Bool) ⊕ Unit)}(ks:α→Option (List Int)) (hg:∀ s p,g s p=(ks p).map fun u=>.inl (ins u s)){s:List (Int×Bool)}{x:List α}{o}(hn:zC s) (h:zBu g s x=some o) : ∀ l,l.Perm x→∃ s1 s2,o=.inl s1∧zBu g s l=some (.inl s2)∧s2.Perm s1:=fun l hl =>
 let ⟨s1,s2,h1,h2,h3,_⟩:=mfold_perm (E:=List.Perm) (I:=zC) ks ins hg (fun s=>List.Perm.refl s) (fun h k=>h.trans k) (fun u s h=>ins_nodup u s h) (fun u s s' h h' hp=>ins_perm u s s' h h' hp) (fun u v s h=>ins_comm u v s h) hl hn hn (List.Perm.refl s) h
 ⟨s1,s2,h1,h2,h3⟩

def del1 {β:Type}(u:Option Int) (s:List (Int×β)) : List (Int×β):=match u with
 | some k=>mdel s k
 | none=>s
theorem del1_nodup {β:Type}(u:Option Int) (s:List (Int×β)) (h:zC s) : zC (del1 u s):=by
 cases u with
 | none=>exact h
 | some k=>exact ((mdel_sub s k).map _).nodup h
theorem del1_perm {β:Type}(u:Option Int) (s s':List (Int×β)) (h:zC s) (hp:s.Perm s') : (del1 u s).Perm (del1 u s'):=by
 cases u with
 | none=>exact hp
 | some k=>exact mdel_perm hp h k
theorem mdel_comm {α β:Type} [DecidableEq α] {j k:α} : ∀ (s:List (α×β)),mdel (mdel s j) k=mdel (mdel s k) j:=by
 intro s
 by_cases h : j=k
 ·subst h; rfl
 induction s with
 | nil=>rfl
 | cons p s ih =>
  by_cases h1 : j=p.1
  ·by_cases h2 : k=p.1
   ·exact absurd (h1.trans h2.symm) h
   simp only [mdel,if_pos h1,if_neg h2]
  by_cases h2 : k=p.1
  ·simp only [mdel,if_neg h1,if_pos h2]
  simp only [mdel,if_neg h1,if_neg h2,ih]
theorem del1_comm {β:Type}(u v:Option Int) (s:List (Int×β)) : (del1 u (del1 v s)).Perm (del1 v (del1 u s)):=by
 cases u with
 | none=>exact List.Perm.refl _
 | some k=>cases v with
  | none=>exact List.Perm.refl _
  | some j=>exact List.Perm.of_eq (mdel_comm s)
theorem fold_del {α β:Type}{g:List (Int×β)→α→Option (List (Int×β) ⊕ Unit)}(ks:α→Option (Option Int)) (hg:∀ s p,g s p=(ks p).map fun u=>.inl (del1 u s)){s:List (Int×β)}{x:List α}{o}(hn:zC s) (h:zBu g s x=some o) : ∀ l,l.Perm x→∃ s1 s2,o=.inl s1∧zBu g s l=some (.inl s2)∧s2.Perm s1:=fun l hl =>
 let ⟨s1,s2,h1,h2,h3,_⟩:=mfold_perm (E:=List.Perm) (I:=zC) ks del1 hg (fun s=>List.Perm.refl s) (fun h k=>h.trans k) (fun u s h=>del1_nodup u s h) (fun u s s' h _ hp=>del1_perm u s s' h hp) (fun u v s _=>del1_comm u v s) hl hn hn (List.Perm.refl s) h
 ⟨s1,s2,h1,h2,h3⟩
theorem q_of {α:Type}{q:α ⊕ Unit→α ⊕ Unit→Prop}{E:α→α→Prop}{g}{s1 s2:α}{o}(h:o=.inl s1∧g=some (Sum.inl (β:=Unit) s2)∧E s2 s1) (hq:∀ a b,E a b→q (.inl a) (.inl b)) : ∃ o',g=some o'∧q o' o:=by
 obtain ⟨rfl,h1,h2⟩:=h
 exact ⟨_,h1,hq _ _ h2⟩
theorem f68_m0_o {q1 s x o}(hn:zC s) (h:zBu (f68_m0 q1) s x=some o) : ∀ l,l.Perm x→∃ o',zBu (f68_m0 q1) s l=some o'∧f68_m0_q o' o:=by
 intro l hl
 obtain ⟨s1,s2,h1⟩:=fold_del (g:=f68_m0 q1) (fun p=>(q1 p.1 p.2).map fun b=>bif b then some p.1 else none) (fun s p=>by
  unfold f68_m0
  cases q1 p.1 p.2 with
  | none=>rfl
  | some b=>cases b <;> rfl) hn h l hl
 exact q_of h1 fun a b h=>h
theorem f70_m0_o {q1 s x o}(hn:zC s) (h:zBu (f70_m0 q1) s x=some o) : ∀ l,l.Perm x→∃ o',zBu (f70_m0 q1) s l=some o'∧f70_m0_q o' o:=by
 intro l hl
 obtain ⟨s1,s2,h1⟩:=fold_del (g:=f70_m0 q1) (fun p=>(q1 p.1 p.2).map fun b=>bif b then some p.1 else none) (fun s p=>by
  unfold f70_m0
  cases q1 p.1 p.2 with
  | none=>rfl
  | some b=>cases b <;> rfl) hn h l hl
 exact q_of h1 fun a b h=>h
theorem f67_indep (y:Int) (a b b' c c':List (Int×Bool)) : f67 y (a,b,c)=f67 y (a,b',c'):=rfl
theorem f20_m0_o {x5 s x o}(hn:zC s) (h:zBu (f20_m0 x5) s x=some o) : ∀ l,l.Perm x→∃ o',zBu (f20_m0 x5) s l=some o'∧f20_m0_q o' o:=by
 intro l hl
 obtain ⟨s1,s2,h1⟩:=fold_ins (g:=f20_m0 x5) (fun p=>(f66 p.2.2.2 (fun y1=>f67 y1 (x5.1,[],[]))).map fun b=>bif b then [p.1] else []) (fun s p=>by
  unfold f20_m0
  rw [show (fun y1=>f67 y1 (x5.1,s,x5.2.2))=fun y1=>f67 y1 (x5.1,[],[]) from funext fun y=>f67_indep y _ _ _ _ _]
  cases f66 p.2.2.2 (fun y1=>f67 y1 (x5.1,[],[])) with
  | none=>rfl
  | some b=>cases b <;> rfl) hn h l hl
 exact q_of h1 fun a b h=>h
theorem rng_ins {g:Int→List (Int×Bool)→Option (List (Int×Bool) ⊕ Unit)}(ks:Int→Option (List Int)) (hg:∀ i s,g i s=(ks i).map fun u=>.inl (ins u s)) : ∀ (n:Nat) (i:Int),∃ u : Option (List Int),∀ s,rng g n i s=u.map fun u=>.inl (ins u s):=by
 intro n
 induction n with
 | zero=>intro i; exact ⟨some [],fun s=>rfl⟩
 | succ n ih =>
  intro i
  obtain ⟨u,hu⟩:=ih (i+1)
  cases hk : ks i with
  | none=>exact ⟨none,fun s=>by simp only [rng,hg,hk]; rfl⟩
  | some v =>
   cases u with
   | none=>exact ⟨none,fun s=>by simp only [rng,hg,hk,Option.map_some,Option.bind_some]; exact hu _⟩
   | some u=>exact ⟨some (v++u),fun s=>by simp only [rng,hg,hk,Option.map_some,Option.bind_some]; rw [hu]; simp [ins,List.foldl_append]⟩
theorem f46_m1_o {s8 s x o}(hn:zC s) (h:zBu (f46_m1 s8) s x=some o) : ∀ l,l.Perm x→∃ o',zBu (f46_m1 s8) s l=some o'∧f46_m1_q o' o:=by
 intro l hl
 have key : ∀ p : Int×(Int×Str×List Int),∃ u : Option (List Int),∀ s,f46_m1 s8 s p=u.map fun u=>.inl (ins u s):=by
  intro p
  unfold f46_m1
  cases f66 p.2.2.2 (fun y1=>f93 y1 s8) with
  | none=>exact ⟨none,fun s=>rfl⟩
  | some b =>
   cases b with
   | false=>exact ⟨some [],fun s=>rfl⟩
   | true =>
    obtain ⟨u,hu⟩:=rng_ins (g:=f46_b2 p) (fun i=>(ix p.2.2.2 i).map fun k=>[k]) (fun i s=>by
     unfold f46_b2
     cases ix p.2.2.2 i <;> rfl) (Int.toNat (List.length p.2.2.2 : Int)) 0
    refine ⟨u,fun s=>?_⟩
    simp only [Option.bind_some,cond_true,hu]
    cases u <;> rfl
 obtain ⟨s1,s2,h1⟩:=fold_ins (g:=f46_m1 s8) (fun p=>(key p).choose) (fun s p=>(key p).choose_spec s) hn h l hl
 exact q_of h1 fun a b h=>h
theorem f51_m0_o {p0 x8 s x o}(hn:zC s) (h:zBu (f51_m0 p0 x8) s x=some o) : ∀ l,l.Perm x→∃ o',zBu (f51_m0 p0 x8) s l=some o'∧f51_m0_q o' o:=by
 intro l hl
 have key : ∀ p : Int×Bool,∃ u : Option (List Int),∀ s,f51_m0 p0 x8 s p=u.map fun u=>.inl (ins u s):=by
  intro p
  unfold f51_m0
  obtain ⟨u,hu⟩:=rng_ins (g:=f51_b1 p0 x8 p) (fun i=>(ix (((mget p0.2.2.1 p.1).getD (0,([] : Str),[])).2.2) i).map fun k=>bif !((mget x8.1 k).getD false) then [k] else []) (fun i s=>by
   unfold f51_b1
   cases ix (((mget p0.2.2.1 p.1).getD (0,([] : Str),[])).2.2) i with
   | none=>rfl
   | some k=>simp only [Option.bind_some,Option.map_some]; cases (mget x8.1 k).getD false <;> rfl) (Int.toNat (List.length (((mget p0.2.2.1 p.1).getD (0,([] : Str),[])).2.2) : Int)) 0
  refine ⟨u,fun s=>?_⟩
  simp only [hu]
  cases u <;> rfl
 obtain ⟨s1,s2,h1⟩:=fold_ins (g:=f51_m0 p0 x8) (fun p=>(key p).choose) (fun s p=>(key p).choose_spec s) hn h l hl
 exact q_of h1 fun a b h=>h
end Go.Ab
set_option maxHeartbeats 4000000
namespace Go.Ab
open Go.RowKit Go.Shelf Go.Proofs Go.Eng
theorem bt49 : zC4 Tryz.prog 49 (.agg #[.string ByteArray.empty,.int .i64 0,.int .i64 0,.int .i64 0,.int .i64 0,.int .i64 0]) (fun i=>[(0,1),(1,1),(2,1),(3,1),(4,1),(5,1)][i]?):=zBn (zeroX 49 J) (fs:=Tryz.prog.fieldsOf 49) (by kernel_rfl) (fun w=>by kernel_rfl)
theorem bs45 : BuildS Tryz.prog 45 49 Y1:=zCh (z:=.agg #[.string ByteArray.empty,.int .i64 0,.int .i64 0,.int .i64 0,.int .i64 0,.int .i64 0]) (by kernel_rfl) (by kernel_rfl) rfl
theorem bt47 : zC4 Tryz.prog 47 (.agg #[.string ByteArray.empty,.slice none 0 0]) (fun i=>[(0,1),(1,1)][i]?):=zBn (zeroX 47 J) (fs:=Tryz.prog.fieldsOf 47) (by kernel_rfl) (fun w=>by kernel_rfl)
theorem bs22 : BuildS Tryz.prog 22 47 Y2:=zCh (z:=.agg #[.string ByteArray.empty,.slice none 0 0]) (by kernel_rfl) (by kernel_rfl) rfl
theorem bt143 : zC4 Tryz.prog 143 (.agg #[.int .i64 0,.int .i64 0,.int .i64 0]) (fun i=>some (i * 1,1)):=buildT_array (n:=3) (zeroX 143 J) (by kernel_rfl) (szX 3 J)
theorem ent73 : Enters Tryz.prog 73:=enters_of Tryz.func73 (by kernel_rfl) rfl
theorem ent112 : Enters Tryz.prog 112:=enters_of Tryz.func112 (by kernel_rfl) rfl
theorem ent76 : Enters Tryz.prog 76:=enters_of Tryz.func76 (by kernel_rfl) rfl
theorem ent78 : Enters Tryz.prog 78:=enters_of Tryz.func78 (by kernel_rfl) rfl
theorem ent77 : Enters Tryz.prog 77:=enters_of Tryz.func77 (by kernel_rfl) rfl
theorem f6_runs {p0:List (ZS)}{p1:List (ZA)}{r:Bool}(hr:f6 p0 p1=some r) : zBb Tryz.prog 6 [.sl Y2 p0,.sl Y3 p1] [.bool r]:=by
 refine zAW Tryz.func6 Tryz.ntmps6 J (rs:=[.tmp 4]) J J fun w0 X hX=>?_
 obtain ⟨o3,e4,hr⟩:=zA hr
 refine sq<|rg<|V va<|nl<|an<|sq<|sq<|rg<|V vm<|V vnl<|V vm<|nl<|an<|bl<|?_
 refine zAb (t:=0) J (fun hl=>?_)
 refine zAI (List.length p0 : Int) (f6_b0 p0) (fun p=>match p with | (i1,())=>(⟨[(0,.sl Y2 p0),(1,.sl Y3 p1),(4,.bool false),(11,.sl Y2 p0),(12,.i (List.length p0 : Int)),(13,.i i1)],[],0⟩ : AS)) (fun o e st=>match o with | .inl ()=>e=.exit 0∧Wk X st ⟨[(0,.sl Y2 p0),(1,.sl Y3 p1),(4,.bool false)],[],0⟩ | .inr ()=>e=.ret∧Wk X st ⟨[(4,.bool false)],[],0⟩) (zAf hl) e4 (by exact zAA hX [] 4 J J wS trivial) ?_ ?_
 ·intro e st hx
  rcases o3 with _ | _
  ·obtain ⟨rfl,hw⟩:=hx
   obtain ⟨o7,e8,hr⟩:=zA hr
   refine bh<|an<|(zAY hw)<|sq<|sq<|rg<|V vm<|V vnl<|V vm<|nl<|an<|bl<|?_
   refine zAb (t:=1) J (fun hl=>?_)
   refine zAI (List.length p1 : Int) (f6_b1 p1) (fun p=>match p with | (i5,())=>(⟨[(0,.sl Y2 p0),(1,.sl Y3 p1),(4,.bool false),(40,.sl Y3 p1),(41,.i (List.length p1 : Int)),(42,.i i5)],[],0⟩ : AS)) (fun o e st=>match o with | .inl ()=>e=.exit 4∧Wk X st ⟨[(0,.sl Y2 p0),(1,.sl Y3 p1),(4,.bool false)],[],0⟩ | .inr ()=>e=.ret∧Wk X st ⟨[(4,.bool false)],[],0⟩) (zAf hl) e8 (by exact zAA hX [] 4 J J wS trivial) ?_ ?_
   ·intro e st hx
    rcases o7 with _ | _
    ·obtain ⟨rfl,hw⟩:=hx
     refine bh<|an<|(zAY hw)<|sq<|?_
     refine zAa [0,1] [(true,.sl Y2 p0),(true,.i (List.length p0 : Int)),(true,.bool (decide ((List.length p0 : Int)≤25))),(true,.bool (decide ((List.length p0 : Int)≤25))),(decide ((List.length p0 : Int)≤25),.sl Y3 p1),(decide ((List.length p0 : Int)≤25),.i (List.length p1 : Int)),(decide ((List.length p0 : Int)≤25),.bool (decide ((List.length p1 : Int)≤50))),(true,.bool ((decide ((List.length p0 : Int)≤25))&&(decide ((List.length p1 : Int)≤50)))),(true,.bool ((decide ((List.length p0 : Int)≤25))&&(decide ((List.length p1 : Int)≤50))))] [[],[0],[1],[2],[3],[4,3],[5,3],[6,3],[7]] [8] J J J J J ⟨oB wm,zAr J (fun hg=>zAD ⟨rfl,trivial⟩) (fun hg=>zA0 (t:=Y2) J J (undX 22 J) J),oB wle,oB wm,oB wm,zAr ⟨rfl,rfl,rfl,_,rfl,rfl⟩ (fun hg=>zAD ⟨hg,rfl,trivial⟩) (fun hg=>zA0 (t:=Y3) J J (undX 23 J) J),oB wle,zBe,oB wa,trivial⟩ (zAD ⟨rfl,trivial⟩) ?_
     obtain rfl:=Option.some.inj hr
     exact zAZ (zAw (zAk (l':=[(4,.bool ((decide ((List.length p0 : Int)≤25))&&(decide ((List.length p1 : Int)≤50))))]) (zAA hX [] 4 J J wS trivial) J ⟨rfl,trivial⟩))
    obtain ⟨rfl,hw⟩:=hx
    obtain rfl:=Option.some.inj hr
    exact zAE (zAC (zAk (l':=[(4,.bool false)]) (Wk.trans hw (zAA hX [] 4 J J wS trivial)) J ⟨rfl,trivial⟩))
   rintro i5 _ o ho
   refine sq<|rg<|V vls<|nl<|an<|sq<|?_
   refine zAO (b:=decide (i5 < (List.length p1 : Int))) J (fun hc9=>?_) (fun hc9=>?_)
   ·obtain ⟨q,hr,rfl⟩:=zA7 hc9 ho
    obtain ⟨x10,e11,hr⟩:=zA hr
    refine sk<|an<|sq<|bl<|sq<|rg<|V (zAQ (t:=Y3) (e:=x10) (undX 23 J) (szX 35 J) J J e11)<|V vlR<|O oa<|O os<|nl<|an<|sq<|?_
    refine zAa [0,1,4,40,41,42,10] [(true,.ptr 0 4),(true,.str x10.2.2.2.2.1),(true,.i (List.length x10.2.2.2.2.1 : Int)),(true,.bool (decide (1010 < (List.length x10.2.2.2.2.1 : Int)))),(true,.bool (decide (1010 < (List.length x10.2.2.2.2.1 : Int)))),(!(decide (1010 < (List.length x10.2.2.2.2.1 : Int))),.ptr 0 5),(!(decide (1010 < (List.length x10.2.2.2.2.1 : Int))),.str x10.2.2.2.2.2.1),(!(decide (1010 < (List.length x10.2.2.2.2.1 : Int))),.i (List.length x10.2.2.2.2.2.1 : Int)),(!(decide (1010 < (List.length x10.2.2.2.2.1 : Int))),.ptr 0 6),(!(decide (1010 < (List.length x10.2.2.2.2.1 : Int))),.str x10.2.2.2.2.2.2.1),(!(decide (1010 < (List.length x10.2.2.2.2.1 : Int))),.i (List.length x10.2.2.2.2.2.2.1 : Int)),(!(decide (1010 < (List.length x10.2.2.2.2.1 : Int))),.i (w64 ((List.length x10.2.2.2.2.2.1 : Int)+(List.length x10.2.2.2.2.2.2.1 : Int)))),(!(decide (1010 < (List.length x10.2.2.2.2.1 : Int))),.ptr 0 7),(!(decide (1010 < (List.length x10.2.2.2.2.1 : Int))),.str x10.2.2.2.2.2.2.2.1),(!(decide (1010 < (List.length x10.2.2.2.2.1 : Int))),.i (List.length x10.2.2.2.2.2.2.2.1 : Int)),(!(decide (1010 < (List.length x10.2.2.2.2.1 : Int))),.i (w64 ((w64 ((List.length x10.2.2.2.2.2.1 : Int)+(List.length x10.2.2.2.2.2.2.1 : Int)))+(List.length x10.2.2.2.2.2.2.2.1 : Int)))),(!(decide (1010 < (List.length x10.2.2.2.2.1 : Int))),.bool (decide (150 < (w64 ((w64 ((List.length x10.2.2.2.2.2.1 : Int)+(List.length x10.2.2.2.2.2.2.1 : Int)))+(List.length x10.2.2.2.2.2.2.2.1 : Int)))))),(true,.bool ((decide (1010 < (List.length x10.2.2.2.2.1 : Int)))||(decide (150 < (w64 ((w64 ((List.length x10.2.2.2.2.2.1 : Int)+(List.length x10.2.2.2.2.2.2.1 : Int)))+(List.length x10.2.2.2.2.2.2.2.1 : Int))))))),(true,.bool ((decide (1010 < (List.length x10.2.2.2.2.1 : Int)))||(decide (150 < (w64 ((w64 ((List.length x10.2.2.2.2.2.1 : Int)+(List.length x10.2.2.2.2.2.2.1 : Int)))+(List.length x10.2.2.2.2.2.2.2.1 : Int))))))),(!((decide (1010 < (List.length x10.2.2.2.2.1 : Int)))||(decide (150 < (w64 ((w64 ((List.length x10.2.2.2.2.2.1 : Int)+(List.length x10.2.2.2.2.2.2.1 : Int)))+(List.length x10.2.2.2.2.2.2.2.1 : Int)))))),.ptr 0 8),(!((decide (1010 < (List.length x10.2.2.2.2.1 : Int)))||(decide (150 < (w64 ((w64 ((List.length x10.2.2.2.2.2.1 : Int)+(List.length x10.2.2.2.2.2.2.1 : Int)))+(List.length x10.2.2.2.2.2.2.2.1 : Int)))))),.sl .i x10.2.2.2.2.2.2.2.2),(!((decide (1010 < (List.length x10.2.2.2.2.1 : Int)))||(decide (150 < (w64 ((w64 ((List.length x10.2.2.2.2.2.1 : Int)+(List.length x10.2.2.2.2.2.2.1 : Int)))+(List.length x10.2.2.2.2.2.2.2.1 : Int)))))),.i (List.length x10.2.2.2.2.2.2.2.2 : Int)),(!((decide (1010 < (List.length x10.2.2.2.2.1 : Int)))||(decide (150 < (w64 ((w64 ((List.length x10.2.2.2.2.2.1 : Int)+(List.length x10.2.2.2.2.2.2.1 : Int)))+(List.length x10.2.2.2.2.2.2.2.1 : Int)))))),.bool (decide (6 < (List.length x10.2.2.2.2.2.2.2.2 : Int)))),(true,.bool (((decide (1010 < (List.length x10.2.2.2.2.1 : Int)))||(decide (150 < (w64 ((w64 ((List.length x10.2.2.2.2.2.1 : Int)+(List.length x10.2.2.2.2.2.2.1 : Int)))+(List.length x10.2.2.2.2.2.2.2.1 : Int))))))||(decide (6 < (List.length x10.2.2.2.2.2.2.2.2 : Int)))))] [[],[0],[1],[2],[3],[4],[5,4],[6,4],[4],[8,4],[9,4],[7,10,4],[4],[12,4],[13,4],[11,14,4],[15,4],[16,4],[17],[18],[19,18],[20,18],[21,18],[22,18]] [23] J J J J J ⟨oB wfp,oB wlp,oB wnt,oB wgt,oB wm,oB wfp,oB wlp,oB wnt,oB wfp,oB wlp,oB wnt,oB wad,oB wfp,oB wlp,oB wnt,oB wad,oB wgt,zBr,oB wm,oB wfp,oB wlp,zAr ⟨rfl,rfl,rfl,_,rfl,rfl⟩ (fun hg=>zAD ⟨hg,rfl,trivial⟩) (fun hg=>zA0 (t:=.i) J J (undX 33 J) J),oB wgt,zBr,trivial⟩ (zAD ⟨rfl,trivial⟩) ?_
    refine an<|?_
    refine cnd (fun hc12 hr=>?_) (fun hc12 hr=>?_)
    ·refine sq<|rg<|V va<|?_
     obtain rfl:=Option.some.inj hr
     exact nl<|an<|cr<|zAE (zAC (⟨rfl,(zAA hX [] 4 J J wS trivial)⟩))
    refine sk<|bn<|an<|rg<|V vad<|V vm<|?_
    obtain rfl:=Option.some.inj hr
    exact zAJ ((zAA hX [] 4 J J wS trivial))
   obtain rfl:=zA8 hc9 ho
   exact zAH (zAF (⟨rfl,(zAA hX [] 4 J J wS trivial)⟩))
  obtain ⟨rfl,hw⟩:=hx
  obtain rfl:=Option.some.inj hr
  exact zAE (zAC (zAk (l':=[(4,.bool false)]) (Wk.trans hw (zAA hX [] 4 J J wS trivial)) J ⟨rfl,trivial⟩))
 rintro i1 _ o ho
 refine sq<|rg<|V vls<|nl<|an<|sq<|?_
 refine zAO (b:=decide (i1 < (List.length p0 : Int))) J (fun hc13=>?_) (fun hc13=>?_)
 ·obtain ⟨q,hr,rfl⟩:=zA7 hc13 ho
  obtain ⟨x14,e15,hr⟩:=zA hr
  refine sk<|an<|sq<|bl<|sq<|rg<|V (zAQ (t:=Y2) (e:=x14) (undX 22 J) (szX 47 J) J J e15)<|V vlR<|O oa<|O os<|nl<|an<|sq<|sq<|?_
  refine zAa [0,1,4,11,12,13,6] [(true,.ptr 0 0),(true,.str x14.1),(true,.i (List.length x14.1 : Int)),(true,.bool (decide (60 < (List.length x14.1 : Int)))),(true,.bool (decide (60 < (List.length x14.1 : Int)))),(!(decide (60 < (List.length x14.1 : Int))),.ptr 0 1),(!(decide (60 < (List.length x14.1 : Int))),.sl Y1 x14.2),(!(decide (60 < (List.length x14.1 : Int))),.i (List.length x14.2 : Int)),(!(decide (60 < (List.length x14.1 : Int))),.bool (decide (5 < (List.length x14.2 : Int)))),(true,.bool ((decide (60 < (List.length x14.1 : Int)))||(decide (5 < (List.length x14.2 : Int)))))] [[],[0],[1],[2],[3],[4],[5,4],[6,4],[7,4],[8,4]] [9] J J J J J ⟨oB wfp,oB wlp,oB wnt,oB wgt,oB wm,oB wfp,oB wlp,zAr ⟨rfl,rfl,rfl,_,rfl,rfl⟩ (fun hg=>zAD ⟨hg,rfl,trivial⟩) (fun hg=>zA0 (t:=Y1) J J (undX 45 J) J),oB wgt,zBr,trivial⟩ (zAD ⟨rfl,trivial⟩) ?_
  refine an<|?_
  refine cnd (fun hc16 hr=>?_) (fun hc16 hr=>?_)
  ·refine sq<|rg<|V va<|?_
   obtain rfl:=Option.some.inj hr
   exact nl<|an<|cr<|zAC (zAE (zAC (⟨rfl,(zAA hX [] 4 J J wS trivial)⟩)))
  obtain ⟨o19,e20,hr⟩:=zA hr
  refine sk<|an<|sq<|rg<|V vfp<|V vlp<|V vnl<|V vm<|nl<|an<|bl<|?_
  refine zAb (t:=28) J (fun hl=>?_)
  refine zAI (List.length x14.2 : Int) (f6_b2 x14) (fun p=>match p with | (i17,())=>(⟨[(0,.sl Y2 p0),(1,.sl Y3 p1),(4,.bool false),(11,.sl Y2 p0),(12,.i (List.length p0 : Int)),(13,.i i1),(28,.sl Y1 x14.2),(29,.i (List.length x14.2 : Int)),(30,.i i17)],[],0⟩ : AS)) (fun o e st=>match o with | .inl ()=>e=.exit 2∧Wk X st ⟨[(0,.sl Y2 p0),(1,.sl Y3 p1),(4,.bool false),(11,.sl Y2 p0),(12,.i (List.length p0 : Int)),(13,.i i1)],[],0⟩ | .inr ()=>e=.ret∧Wk X st ⟨[(4,.bool false)],[],0⟩) (zAf hl) e20 (by exact zAA hX [] 4 J J wS trivial) ?_ ?_
  ·intro e st hx
   rcases o19 with _ | _
   ·obtain ⟨rfl,hw⟩:=hx
    refine bh<|bn<|an<|(zAY hw)<|rg<|V vad<|V vm<|?_
    obtain rfl:=Option.some.inj hr
    exact zAJ ((zAA hX [] 4 J J wS trivial))
   obtain ⟨rfl,hw⟩:=hx
   obtain rfl:=Option.some.inj hr
   exact zAE (zAE (zAC (⟨rfl,(Wk.trans hw (zAA hX [] 4 J J wS trivial))⟩)))
  rintro i17 _ o ho
  refine sq<|rg<|V vls<|nl<|an<|sq<|?_
  refine zAO (b:=decide (i17 < (List.length x14.2 : Int))) J (fun hc21=>?_) (fun hc21=>?_)
  ·obtain ⟨q,hr,rfl⟩:=zA7 hc21 ho
   obtain ⟨x22,e23,hr⟩:=zA hr
   refine sk<|an<|sq<|bl<|sq<|rg<|V (zAQ (t:=Y1) (e:=x22) (undX 45 J) (szX 49 J) J J e23)<|V vlR<|O oa<|O os<|nl<|an<|sq<|rg<|V vfp<|V vlp<|V vnt<|V vgt<|nl<|an<|?_
   refine cnd (fun hc24 hr=>?_) (fun hc24 hr=>?_)
   ·refine sq<|rg<|V va<|?_
    obtain rfl:=Option.some.inj hr
    exact nl<|an<|cr<|zAE (zAC (⟨rfl,(zAA hX [] 4 J J wS trivial)⟩))
   refine sk<|bn<|an<|rg<|V vad<|V vm<|?_
   obtain rfl:=Option.some.inj hr
   exact zAJ ((zAA hX [] 4 J J wS trivial))
  obtain rfl:=zA8 hc21 ho
  exact zAH (zAF (⟨rfl,(zAA hX [] 4 J J wS trivial)⟩))
 obtain rfl:=zA8 hc13 ho
 exact zAH (zAF (⟨rfl,(zAA hX [] 4 J J wS trivial)⟩))
theorem f22_runs {r:(List (ZS))}(hr:f22=some r) : zBb Tryz.prog 22 [] [.sl Y2 r]:=by
 refine zAW Tryz.func22 Tryz.ntmps22 J (rs:=[.tmp 0]) J J fun w0 X hX=>?_
 refine sq<|rg<|V va<|nl<|an<|sq<|rg<|?_
 refine V (zAs (qs:=[(0,[.str ([119,104,111,108,101] : Str)]),(3,[.i 1]),(4,[.i 1]),(5,[.i 1])]) (cs:=[.str ([119,104,111,108,101] : Str),.i 0,.i 0,.i 1,.i 1,.i 1]) bt49 J J J)<|?_
 refine V (zAs (qs:=[(0,[.str ([112,97,114,116] : Str)]),(3,[.i 3]),(4,[.i 3]),(5,[.i 3])]) (cs:=[.str ([112,97,114,116] : Str),.i 0,.i 0,.i 3,.i 3,.i 3]) bt49 J J J)<|?_
 refine V (zAM (t:=Y1) (qs:=[(0,[.str ([119,104,111,108,101] : Str),.i 0,.i 0,.i 1,.i 1,.i 1]),(1,[.str ([112,97,114,116] : Str),.i 0,.i 0,.i 3,.i 3,.i 3])]) (ys:=[(([119,104,111,108,101] : Str),0,0,1,1,1),(([112,97,114,116] : Str),0,0,3,3,3)]) bs45 J J J J J J J J)<|?_
 refine V (zAs (qs:=[(0,[.str ([105,110] : Str)]),(1,[.sl Y1 [(([119,104,111,108,101] : Str),0,0,1,1,1),(([112,97,114,116] : Str),0,0,3,3,3)]])]) (cs:=[.str ([105,110] : Str),.sl Y1 [(([119,104,111,108,101] : Str),0,0,1,1,1),(([112,97,114,116] : Str),0,0,3,3,3)]]) bt47 J J J)<|?_
 refine zAK (zBq (t:=Y2) (qs:=[(0,[.str ([105,110] : Str),.sl Y1 [(([119,104,111,108,101] : Str),0,0,1,1,1),(([112,97,114,116] : Str),0,0,3,3,3)]])]) (ys:=[(([105,110] : Str),[(([119,104,111,108,101] : Str),0,0,1,1,1),(([112,97,114,116] : Str),0,0,3,3,3)])]) bs22 J J J J J J J J ?_)
 refine V va<|?_
 obtain rfl:=Option.some.inj hr
 exact nl<|an<|cr<|zAk (l':=[(0,.sl Y2 [(([105,110] : Str),[(([119,104,111,108,101] : Str),0,0,1,1,1),(([112,97,114,116] : Str),0,0,3,3,3)])])]) (zAA hX [] 4 J J wS trivial) J ⟨rfl,trivial⟩
theorem f73_runs {p0:Str}{r:Bool}(hr:f73 p0=some r) : zBb Tryz.prog 73 [.str p0] [.bool r]:=by
 refine zAW Tryz.func73 Tryz.ntmps73 J (rs:=[.tmp 2]) J J fun w0 X hX=>?_
 refine sq<|rg<|V va<|nl<|an<|sq<|sq<|rg<|V vm<|V vnt<|V vm<|nl<|an<|bl<|?_
 obtain ⟨h3,hr⟩:=zAN hr
 obtain ⟨o4,e5,hr⟩:=zA hr
 refine zAI (List.length p0 : Int) (f73_b0 p0) (fun p=>match p with | (i1,())=>(⟨[(0,.str p0),(2,.bool false),(6,.i (List.length p0 : Int)),(7,.i i1)],[],0⟩ : AS)) (fun o e st=>match o with | .inl ()=>e=.exit 0∧Wk X st ⟨[(0,.str p0),(2,.bool false)],[],0⟩ | .inr ()=>e=.ret∧Wk X st ⟨[(2,.bool false)],[],0⟩) (of_decide_eq_true h3) e5 (by exact zAA hX [] 4 J J wS trivial) ?_ ?_
 ·intro e st hx
  rcases o4 with _ | _
  ·obtain ⟨rfl,hw⟩:=hx
   refine bh<|an<|(zAY hw)<|sq<|?_
   refine zAa [0] [(true,.str p0),(true,.bool (!decide (p0=([] : Str)))),(true,.bool (!decide (p0=([] : Str)))),(!decide (p0=([] : Str)),.str p0),(!decide (p0=([] : Str)),.i (List.length p0 : Int)),(!decide (p0=([] : Str)),.bool (decide ((List.length p0 : Int)≤32))),(true,.bool ((!decide (p0=([] : Str)))&&(decide ((List.length p0 : Int)≤32)))),(true,.bool ((!decide (p0=([] : Str)))&&(decide ((List.length p0 : Int)≤32))))] [[],[0],[1],[2],[3,2],[4,2],[5,2],[6]] [7] J J J J J ⟨oB wm,oB wns,oB wm,oB wm,oB wnt,oB wle,zBe,oB wa,trivial⟩ (zAD ⟨rfl,trivial⟩) ?_
   obtain rfl:=Option.some.inj hr
   exact zAZ (zAw (zAk (l':=[(2,.bool ((!decide (p0=([] : Str)))&&(decide ((List.length p0 : Int)≤32))))]) (zAA hX [] 4 J J wS trivial) J ⟨rfl,trivial⟩))
  obtain ⟨rfl,hw⟩:=hx
  obtain rfl:=Option.some.inj hr
  exact zAE (zAC (zAk (l':=[(2,.bool false)]) (Wk.trans hw (zAA hX [] 4 J J wS trivial)) J ⟨rfl,trivial⟩))
 rintro i1 _ o ho
 refine sq<|rg<|V vls<|nl<|an<|sq<|?_
 refine zAO (b:=decide (i1 < (List.length p0 : Int))) J (fun hc6=>?_) (fun hc6=>?_)
 ·obtain ⟨q,hr,rfl⟩:=zA7 hc6 ho
  obtain ⟨x7,e8,hr⟩:=zA hr
  refine sk<|an<|sq<|bl<|sq<|rg<|V vm<|V va<|nl<|an<|sq<|rg<|V vm<|V vm<|?_
  refine V (zBB (undX 9 J) J J e8)<|V va<|nl<|an<|sq<|?_
  refine zAa [0,2,6,7,3,4] [(true,.int .u8 ((UInt8.toNat x7 : Nat) : Int)),(true,.bool (decide (((UInt8.toNat x7 : Nat) : Int) < 97))),(true,.bool (decide (((UInt8.toNat x7 : Nat) : Int) < 97))),(!(decide (((UInt8.toNat x7 : Nat) : Int) < 97)),.int .u8 ((UInt8.toNat x7 : Nat) : Int)),(!(decide (((UInt8.toNat x7 : Nat) : Int) < 97)),.bool (decide (122 < ((UInt8.toNat x7 : Nat) : Int)))),(true,.bool ((decide (((UInt8.toNat x7 : Nat) : Int) < 97))||(decide (122 < ((UInt8.toNat x7 : Nat) : Int))))),(true,.bool ((decide (((UInt8.toNat x7 : Nat) : Int) < 97))||(decide (122 < ((UInt8.toNat x7 : Nat) : Int))))),((decide (((UInt8.toNat x7 : Nat) : Int) < 97))||(decide (122 < ((UInt8.toNat x7 : Nat) : Int))),.int .u8 ((UInt8.toNat x7 : Nat) : Int)),((decide (((UInt8.toNat x7 : Nat) : Int) < 97))||(decide (122 < ((UInt8.toNat x7 : Nat) : Int))),.bool (decide (((UInt8.toNat x7 : Nat) : Int) < 65))),((decide (((UInt8.toNat x7 : Nat) : Int) < 97))||(decide (122 < ((UInt8.toNat x7 : Nat) : Int))),.bool (decide (((UInt8.toNat x7 : Nat) : Int) < 65))),(((decide (((UInt8.toNat x7 : Nat) : Int) < 97))||(decide (122 < ((UInt8.toNat x7 : Nat) : Int))))&&(!(decide (((UInt8.toNat x7 : Nat) : Int) < 65))),.int .u8 ((UInt8.toNat x7 : Nat) : Int)),(((decide (((UInt8.toNat x7 : Nat) : Int) < 97))||(decide (122 < ((UInt8.toNat x7 : Nat) : Int))))&&(!(decide (((UInt8.toNat x7 : Nat) : Int) < 65))),.bool (decide (90 < ((UInt8.toNat x7 : Nat) : Int)))),((decide (((UInt8.toNat x7 : Nat) : Int) < 97))||(decide (122 < ((UInt8.toNat x7 : Nat) : Int))),.bool ((decide (((UInt8.toNat x7 : Nat) : Int) < 65))||(decide (90 < ((UInt8.toNat x7 : Nat) : Int))))),(true,.bool (((decide (((UInt8.toNat x7 : Nat) : Int) < 97))||(decide (122 < ((UInt8.toNat x7 : Nat) : Int))))&&((decide (((UInt8.toNat x7 : Nat) : Int) < 65))||(decide (90 < ((UInt8.toNat x7 : Nat) : Int)))))),(true,.bool (((decide (((UInt8.toNat x7 : Nat) : Int) < 97))||(decide (122 < ((UInt8.toNat x7 : Nat) : Int))))&&((decide (((UInt8.toNat x7 : Nat) : Int) < 65))||(decide (90 < ((UInt8.toNat x7 : Nat) : Int)))))),(((decide (((UInt8.toNat x7 : Nat) : Int) < 97))||(decide (122 < ((UInt8.toNat x7 : Nat) : Int))))&&((decide (((UInt8.toNat x7 : Nat) : Int) < 65))||(decide (90 < ((UInt8.toNat x7 : Nat) : Int)))),.i i1),(((decide (((UInt8.toNat x7 : Nat) : Int) < 97))||(decide (122 < ((UInt8.toNat x7 : Nat) : Int))))&&((decide (((UInt8.toNat x7 : Nat) : Int) < 65))||(decide (90 < ((UInt8.toNat x7 : Nat) : Int)))),.bool (decide (i1=0))),(((decide (((UInt8.toNat x7 : Nat) : Int) < 97))||(decide (122 < ((UInt8.toNat x7 : Nat) : Int))))&&((decide (((UInt8.toNat x7 : Nat) : Int) < 65))||(decide (90 < ((UInt8.toNat x7 : Nat) : Int)))),.bool (decide (i1=0))),((((decide (((UInt8.toNat x7 : Nat) : Int) < 97))||(decide (122 < ((UInt8.toNat x7 : Nat) : Int))))&&((decide (((UInt8.toNat x7 : Nat) : Int) < 65))||(decide (90 < ((UInt8.toNat x7 : Nat) : Int)))))&&(!(decide (i1=0))),.int .u8 ((UInt8.toNat x7 : Nat) : Int)),((((decide (((UInt8.toNat x7 : Nat) : Int) < 97))||(decide (122 < ((UInt8.toNat x7 : Nat) : Int))))&&((decide (((UInt8.toNat x7 : Nat) : Int) < 65))||(decide (90 < ((UInt8.toNat x7 : Nat) : Int)))))&&(!(decide (i1=0))),.bool (!decide (((UInt8.toNat x7 : Nat) : Int)=95))),((((decide (((UInt8.toNat x7 : Nat) : Int) < 97))||(decide (122 < ((UInt8.toNat x7 : Nat) : Int))))&&((decide (((UInt8.toNat x7 : Nat) : Int) < 65))||(decide (90 < ((UInt8.toNat x7 : Nat) : Int)))))&&(!(decide (i1=0))),.bool (!decide (((UInt8.toNat x7 : Nat) : Int)=95))),(((((decide (((UInt8.toNat x7 : Nat) : Int) < 97))||(decide (122 < ((UInt8.toNat x7 : Nat) : Int))))&&((decide (((UInt8.toNat x7 : Nat) : Int) < 65))||(decide (90 < ((UInt8.toNat x7 : Nat) : Int)))))&&(!(decide (i1=0))))&&(!decide (((UInt8.toNat x7 : Nat) : Int)=95)),.int .u8 ((UInt8.toNat x7 : Nat) : Int)),(((((decide (((UInt8.toNat x7 : Nat) : Int) < 97))||(decide (122 < ((UInt8.toNat x7 : Nat) : Int))))&&((decide (((UInt8.toNat x7 : Nat) : Int) < 65))||(decide (90 < ((UInt8.toNat x7 : Nat) : Int)))))&&(!(decide (i1=0))))&&(!decide (((UInt8.toNat x7 : Nat) : Int)=95)),.bool (decide (((UInt8.toNat x7 : Nat) : Int) < 48))),(((((decide (((UInt8.toNat x7 : Nat) : Int) < 97))||(decide (122 < ((UInt8.toNat x7 : Nat) : Int))))&&((decide (((UInt8.toNat x7 : Nat) : Int) < 65))||(decide (90 < ((UInt8.toNat x7 : Nat) : Int)))))&&(!(decide (i1=0))))&&(!decide (((UInt8.toNat x7 : Nat) : Int)=95)),.bool (decide (((UInt8.toNat x7 : Nat) : Int) < 48))),((((((decide (((UInt8.toNat x7 : Nat) : Int) < 97))||(decide (122 < ((UInt8.toNat x7 : Nat) : Int))))&&((decide (((UInt8.toNat x7 : Nat) : Int) < 65))||(decide (90 < ((UInt8.toNat x7 : Nat) : Int)))))&&(!(decide (i1=0))))&&(!decide (((UInt8.toNat x7 : Nat) : Int)=95)))&&(!(decide (((UInt8.toNat x7 : Nat) : Int) < 48))),.int .u8 ((UInt8.toNat x7 : Nat) : Int)),((((((decide (((UInt8.toNat x7 : Nat) : Int) < 97))||(decide (122 < ((UInt8.toNat x7 : Nat) : Int))))&&((decide (((UInt8.toNat x7 : Nat) : Int) < 65))||(decide (90 < ((UInt8.toNat x7 : Nat) : Int)))))&&(!(decide (i1=0))))&&(!decide (((UInt8.toNat x7 : Nat) : Int)=95)))&&(!(decide (((UInt8.toNat x7 : Nat) : Int) < 48))),.bool (decide (57 < ((UInt8.toNat x7 : Nat) : Int)))),(((((decide (((UInt8.toNat x7 : Nat) : Int) < 97))||(decide (122 < ((UInt8.toNat x7 : Nat) : Int))))&&((decide (((UInt8.toNat x7 : Nat) : Int) < 65))||(decide (90 < ((UInt8.toNat x7 : Nat) : Int)))))&&(!(decide (i1=0))))&&(!decide (((UInt8.toNat x7 : Nat) : Int)=95)),.bool ((decide (((UInt8.toNat x7 : Nat) : Int) < 48))||(decide (57 < ((UInt8.toNat x7 : Nat) : Int))))),((((decide (((UInt8.toNat x7 : Nat) : Int) < 97))||(decide (122 < ((UInt8.toNat x7 : Nat) : Int))))&&((decide (((UInt8.toNat x7 : Nat) : Int) < 65))||(decide (90 < ((UInt8.toNat x7 : Nat) : Int)))))&&(!(decide (i1=0))),.bool ((!decide (((UInt8.toNat x7 : Nat) : Int)=95))&&((decide (((UInt8.toNat x7 : Nat) : Int) < 48))||(decide (57 < ((UInt8.toNat x7 : Nat) : Int)))))),(((decide (((UInt8.toNat x7 : Nat) : Int) < 97))||(decide (122 < ((UInt8.toNat x7 : Nat) : Int))))&&((decide (((UInt8.toNat x7 : Nat) : Int) < 65))||(decide (90 < ((UInt8.toNat x7 : Nat) : Int)))),.bool ((decide (i1=0))||((!decide (((UInt8.toNat x7 : Nat) : Int)=95))&&((decide (((UInt8.toNat x7 : Nat) : Int) < 48))||(decide (57 < ((UInt8.toNat x7 : Nat) : Int))))))),(true,.bool ((((decide (((UInt8.toNat x7 : Nat) : Int) < 97))||(decide (122 < ((UInt8.toNat x7 : Nat) : Int))))&&((decide (((UInt8.toNat x7 : Nat) : Int) < 65))||(decide (90 < ((UInt8.toNat x7 : Nat) : Int)))))&&((decide (i1=0))||((!decide (((UInt8.toNat x7 : Nat) : Int)=95))&&((decide (((UInt8.toNat x7 : Nat) : Int) < 48))||(decide (57 < ((UInt8.toNat x7 : Nat) : Int))))))))] [[],[0],[1],[2],[3,2],[4,2],[5],[6],[7,6],[8,6],[9],[10,9],[11,9,6],[12,6],[13],[14],[15,14],[16,14],[17],[18,17],[19,17],[20],[21,20],[22,20],[23],[24,23],[25,23,20],[26,20,17],[27,17,14],[28,14]] [29] J J J J J ⟨oB wm,oB wls,oB wm,oB wm,oB wgt,zBr,oB wm,oB wm,oB wls,oB wm,oB wm,oB wgt,zBC (b:=false) (p:=decide (((UInt8.toNat x7 : Nat) : Int) < 65)) (q:=decide (90 < ((UInt8.toNat x7 : Nat) : Int))) ⟨rfl,rfl,rfl,_,rfl,rfl⟩ J J (fun hg=>zAD ⟨hg,rfl,trivial⟩) J J J J rfl,zBe,oB wm,oB wm,oB weq,oB wm,oB wm,oB wne,oB wm,oB wm,oB wls,oB wm,oB wm,oB wgt,zBC (b:=false) (p:=decide (((UInt8.toNat x7 : Nat) : Int) < 48)) (q:=decide (57 < ((UInt8.toNat x7 : Nat) : Int))) ⟨rfl,rfl,rfl,_,rfl,rfl⟩ J J (fun hg=>zAD ⟨hg,(zBO hg),trivial⟩) J J J J rfl,zBC (b:=true) (p:=!decide (((UInt8.toNat x7 : Nat) : Int)=95)) (q:=(decide (((UInt8.toNat x7 : Nat) : Int) < 48))||(decide (57 < ((UInt8.toNat x7 : Nat) : Int)))) ⟨rfl,rfl,rfl,_,rfl,rfl⟩ J J (fun hg=>zAD ⟨hg,(zBO hg),trivial⟩) J J J J rfl,zBC (b:=false) (p:=decide (i1=0)) (q:=(!decide (((UInt8.toNat x7 : Nat) : Int)=95))&&((decide (((UInt8.toNat x7 : Nat) : Int) < 48))||(decide (57 < ((UInt8.toNat x7 : Nat) : Int))))) ⟨rfl,rfl,rfl,_,rfl,rfl⟩ J J (fun hg=>zAD ⟨hg,rfl,trivial⟩) J J J J rfl,zBe,trivial⟩ (zAD ⟨rfl,trivial⟩) ?_
  refine an<|?_
  refine cnd (fun hc9 hr=>?_) (fun hc9 hr=>?_)
  ·refine sq<|rg<|V va<|?_
   obtain rfl:=Option.some.inj hr
   exact nl<|an<|cr<|zAE (zAC (⟨rfl,(zAA hX [] 4 J J wS trivial)⟩))
  refine sk<|bn<|an<|rg<|V vad<|V vm<|?_
  obtain rfl:=Option.some.inj hr
  exact zAJ ((zAA hX [] 4 J J wS trivial))
 obtain rfl:=zA8 hc6 ho
 exact zAH (zAF (⟨rfl,(zAA hX [] 4 J J wS trivial)⟩))
theorem f76_runs {p0:ZO}{r:Bool}(hr:f76 p0=some r) : zBb Tryz.prog 76 [.agg [.str p0.1,.i p0.2.1,.i p0.2.2.1,.i p0.2.2.2.1,.i p0.2.2.2.2.1,.i p0.2.2.2.2.2]] [.bool r]:=by
 refine zAW Tryz.func76 Tryz.ntmps76 J (rs:=[.tmp 2]) J J fun w0 X hX=>?_
 obtain ⟨o3,e4,hr⟩:=zA hr
 refine sq<|rg<|O ob<|V va<|nl<|an<|sq<|sq<|rg<|V vfp<|V vlp<|V vfp<|V vlp<|V vfp<|V vlp<|?_
 refine V (zAs (qs:=[(0,[.i p0.2.2.2.1]),(1,[.i p0.2.2.2.2.1]),(2,[.i p0.2.2.2.2.2])]) (cs:=[.i p0.2.2.2.1,.i p0.2.2.2.2.1,.i p0.2.2.2.2.2]) bt143 J J J)<|V vm<|nl<|an<|bl<|?_
 refine zAI (S:=Unit) (R:=Unit) 3 (f76_b0 p0) (fun p=>match p with | (i1,())=>(⟨[(1,.ptr 0 0),(2,.bool false),(11,.agg [.i p0.2.2.2.1,.i p0.2.2.2.2.1,.i p0.2.2.2.2.2]),(12,.i i1)],[(0,.var 49 [.str p0.1,.i p0.2.1,.i p0.2.2.1,.i p0.2.2.2.1,.i p0.2.2.2.2.1,.i p0.2.2.2.2.2])],1⟩ : AS)) (fun o e st=>match o with | .inl ()=>e=.exit 0∧Wk X st ⟨[(1,.ptr 0 0),(2,.bool false)],[(0,.var 49 [.str p0.1,.i p0.2.1,.i p0.2.2.1,.i p0.2.2.2.1,.i p0.2.2.2.2.1,.i p0.2.2.2.2.2])],1⟩ | .inr ()=>e=.ret∧Wk X st ⟨[(2,.bool false)],[],0⟩) (by decide) e4 (by exact zAA hX [0] 4 J J wS wO) ?_ ?_
 ·intro e st hx
  rcases o3 with _ | _
  ·obtain ⟨rfl,hw⟩:=hx
   obtain ⟨x5,e6,hr⟩:=zA hr
   refine bh<|an<|(zAY hw)<|sq<|?_
   refine zAa [1] [(true,.ptr 0 0),(true,.str p0.1),(true,.bool x5),(true,.bool x5),(x5,.ptr 0 1),(x5,.i p0.2.1),(x5,.bool (decide (p0.2.1=0))),(x5,.bool (decide (p0.2.1=0))),(x5&&(!(decide (p0.2.1=0))),.ptr 0 1),(x5&&(!(decide (p0.2.1=0))),.i p0.2.1),(x5&&(!(decide (p0.2.1=0))),.bool (decide (p0.2.1=1))),(x5,.bool ((decide (p0.2.1=0))||(decide (p0.2.1=1)))),(true,.bool (x5&&((decide (p0.2.1=0))||(decide (p0.2.1=1))))),(true,.bool (x5&&((decide (p0.2.1=0))||(decide (p0.2.1=1))))),(x5&&((decide (p0.2.1=0))||(decide (p0.2.1=1))),.ptr 0 2),(x5&&((decide (p0.2.1=0))||(decide (p0.2.1=1))),.i p0.2.2.1),(x5&&((decide (p0.2.1=0))||(decide (p0.2.1=1))),.bool (decide (0≤p0.2.2.1))),(true,.bool ((x5&&((decide (p0.2.1=0))||(decide (p0.2.1=1))))&&(decide (0≤p0.2.2.1)))),(true,.bool ((x5&&((decide (p0.2.1=0))||(decide (p0.2.1=1))))&&(decide (0≤p0.2.2.1)))),((x5&&((decide (p0.2.1=0))||(decide (p0.2.1=1))))&&(decide (0≤p0.2.2.1)),.ptr 0 2),((x5&&((decide (p0.2.1=0))||(decide (p0.2.1=1))))&&(decide (0≤p0.2.2.1)),.i p0.2.2.1),((x5&&((decide (p0.2.1=0))||(decide (p0.2.1=1))))&&(decide (0≤p0.2.2.1)),.bool (decide (p0.2.2.1≤100))),(true,.bool (((x5&&((decide (p0.2.1=0))||(decide (p0.2.1=1))))&&(decide (0≤p0.2.2.1)))&&(decide (p0.2.2.1≤100)))),(true,.bool (((x5&&((decide (p0.2.1=0))||(decide (p0.2.1=1))))&&(decide (0≤p0.2.2.1)))&&(decide (p0.2.2.1≤100))))] [[],[0],[1],[2],[3],[4,3],[5,3],[6,3],[7],[8,7],[9,7],[10,7,3],[11,3],[12],[13],[14,13],[15,13],[16,13],[17],[18],[19,18],[20,18],[21,18],[22]] [23] J J J J J ⟨oB wfp,oB wlp,zAr J (fun hg=>zAD ⟨rfl,trivial⟩) (fun hg=>zAV (f73_runs e6).x ent73 J J),oB wm,oB wfp,oB wlp,oB weq,oB wm,oB wfp,oB wlp,oB weq,zBC (b:=false) (p:=decide (p0.2.1=0)) (q:=decide (p0.2.1=1)) ⟨rfl,rfl,rfl,_,rfl,rfl⟩ J J (fun hg=>zAD ⟨hg,rfl,trivial⟩) J J J J rfl,zBe,oB wm,oB wfp,oB wlp,oB wge,zBe,oB wm,oB wfp,oB wlp,oB wle,zBe,oB wa,trivial⟩ (zAD ⟨rfl,trivial⟩) ?_
   obtain rfl:=Option.some.inj hr
   exact zAZ (zAw (zAk (l':=[(2,.bool (((x5&&((decide (p0.2.1=0))||(decide (p0.2.1=1))))&&(decide (0≤p0.2.2.1)))&&(decide (p0.2.2.1≤100))))]) (zAA hX [] 4 J J wS trivial) J ⟨rfl,trivial⟩))
  obtain ⟨rfl,hw⟩:=hx
  obtain rfl:=Option.some.inj hr
  exact zAE (zAC (zAk (l':=[(2,.bool false)]) (Wk.trans hw (zAA hX [] 4 J J wS trivial)) J ⟨rfl,trivial⟩))
 rintro i1 _ o ho
 refine sq<|rg<|V vls<|nl<|an<|sq<|?_
 refine zAO (b:=decide (i1 < 3)) J (fun hc7=>?_) (fun hc7=>?_)
 ·obtain ⟨q,hr,rfl⟩:=zA7 hc7 ho
  obtain ⟨x8,e9,hr⟩:=zA hr
  refine sk<|an<|sq<|bl<|sq<|rg<|V (av_index_aggI (l:=([p0.2.2.2.1,p0.2.2.2.2.1,p0.2.2.2.2.2] : List Int)) (undX 143 J) (tsX 3 J) J J J e9)<|V va<|nl<|an<|sq<|?_
  refine zAa [1,2,11,12,4] [(true,.i x8),(true,.bool (decide (x8 < 1))),(true,.bool (decide (x8 < 1))),(!(decide (x8 < 1)),.i x8),(!(decide (x8 < 1)),.bool (decide (3 < x8))),(true,.bool ((decide (x8 < 1))||(decide (3 < x8))))] [[],[0],[1],[2],[3,2],[4,2]] [5] J J J J J ⟨oB wm,oB wls,oB wm,oB wm,oB wgt,zBr,trivial⟩ (zAD ⟨rfl,trivial⟩) ?_
  refine an<|?_
  refine cnd (fun hc10 hr=>?_) (fun hc10 hr=>?_)
  ·refine sq<|rg<|V va<|?_
   obtain rfl:=Option.some.inj hr
   exact nl<|an<|cr<|zAE (zAC (⟨rfl,(zAA hX [] 4 J J wS trivial)⟩))
  refine sk<|bn<|an<|rg<|V vad<|V vm<|?_
  obtain rfl:=Option.some.inj hr
  exact zAJ ((zAA hX [0] 4 J J wS wO))
 obtain rfl:=zA8 hc7 ho
 exact zAH (zAF (⟨rfl,(zAA hX [0] 4 J J wS wO)⟩))
theorem f78_runs {p0:ZO}{p1:ZO}{r:Bool}(hr:f78 p0 p1=some r) : zBb Tryz.prog 78 [.agg [.str p0.1,.i p0.2.1,.i p0.2.2.1,.i p0.2.2.2.1,.i p0.2.2.2.2.1,.i p0.2.2.2.2.2],.rp [.str p1.1,.i p1.2.1,.i p1.2.2.1,.i p1.2.2.2.1,.i p1.2.2.2.2.1,.i p1.2.2.2.2.2]] [.bool r]:=by
 refine zAW Tryz.func78 Tryz.ntmps78 J (rs:=[.tmp 3]) J J fun w0 X hX=>?_
 refine sq<|rg<|O ob<|V va<|nl<|an<|sq<|rg<|V vfp<|V vlp<|V vfr<|V vlr<|V ves<|V va<|?_
 obtain rfl:=Option.some.inj hr
 exact nl<|an<|cr<|zAk (l':=[(3,.bool (decide (p0.1=p1.1)))]) (zAA hX [] 4 J J wS trivial) J ⟨rfl,trivial⟩
theorem f112_runs {p0:List (ZO)}{q1:(ZO)→Option Bool}{r:Int}{g1:FuncId}{c1s:List AV}(h_q1:∀ (y1:ZO) (r:Bool),q1 y1=some r→zBb Tryz.prog g1 ([.agg [.str y1.1,.i y1.2.1,.i y1.2.2.1,.i y1.2.2.2.1,.i y1.2.2.2.2.1,.i y1.2.2.2.2.2]]++c1s) [.bool r]) (k_q1:FnIn Tryz.prog g1 c1s) (hr:f112 p0 q1=some r) : zBb Tryz.prog 112 [.sl Y1 p0,.clo (.fn g1 [] c1s)] [.i r]:=by
 refine zAW Tryz.func112 Tryz.ntmps112 J (rs:=[.tmp 4]) J J fun w0 X hX=>?_
 obtain ⟨o4,e5,hr⟩:=zA hr
 refine sq<|rg<|V va<|nl<|an<|sq<|sq<|rg<|V vm<|V vnl<|V vm<|nl<|an<|bl<|?_
 refine zAb (t:=0) J (fun hl=>?_)
 refine zAI (List.length p0 : Int) (f112_b0 p0 q1) (fun p=>match p with | (i1,())=>(⟨[(0,.sl Y1 p0),(1,.clo (.fn g1 [] c1s)),(4,.i 0),(7,.i (List.length p0 : Int)),(8,.i i1)],[],0⟩ : AS)) (fun o e st=>match o with | .inl ()=>e=.exit 0∧Wk X st ⟨[(4,.i 0)],[],0⟩ | .inr s3=>e=.ret∧Wk X st ⟨[(4,.i s3)],[],0⟩) (zAf hl) e5 (by exact zAA hX [] 4 J J wS trivial) ?_ ?_
 ·intro e st hx
  rcases o4 with _ | s3
  ·obtain ⟨rfl,hw⟩:=hx
   refine bh<|an<|(zAY hw)<|sq<|rg<|V va<|?_
   obtain rfl:=Option.some.inj hr
   exact nl<|an<|cr<|zAk (l':=[(4,.i (-1))]) (zAA hX [] 4 J J wS trivial) J ⟨rfl,trivial⟩
  obtain ⟨rfl,hw⟩:=hx
  obtain rfl:=Option.some.inj hr
  exact zAE (zAC (zAk (l':=[(4,.i s3)]) (Wk.trans hw (zAA hX [] 4 J J wS trivial)) J ⟨rfl,trivial⟩))
 rintro i1 _ o ho
 refine sq<|rg<|V vls<|nl<|an<|sq<|?_
 refine zAO (b:=decide (i1 < (List.length p0 : Int))) J (fun hc6=>?_) (fun hc6=>?_)
 ·obtain ⟨q,hr,rfl⟩:=zA7 hc6 ho
  obtain ⟨x7,e8,hr⟩:=zA hr
  obtain ⟨x9,e10,hr⟩:=zA hr
  refine sk<|an<|sq<|bl<|sq<|rg<|V vm<|V va<|nl<|an<|sq<|rg<|V vm<|V vm<|V vm<|?_
  refine V (zAQ (t:=Y1) (e:=x7) (undX 45 J) (szX 49 J) J J e8)<|V vlR<|?_
  refine V (av_callq J (h_q1 x7 x9 e10).x k_q1 J J J)<|nl<|an<|?_
  refine cnd (fun hc11 hr=>?_) (fun hc11 hr=>?_)
  ·refine sq<|rg<|V vm<|V va<|?_
   obtain rfl:=Option.some.inj hr
   exact nl<|an<|cr<|zAE (zAC (⟨rfl,(zAA hX [] 4 J J wS trivial)⟩))
  refine sk<|bn<|an<|rg<|V vad<|V vm<|?_
  obtain rfl:=Option.some.inj hr
  exact zAJ ((zAA hX [] 4 J J wS trivial))
 obtain rfl:=zA8 hc6 ho
 exact zAH (zAF (⟨rfl,(zAA hX [] 4 J J wS trivial)⟩))
theorem f77_runs {p0:List (ZO)}{q1:(ZO)→Option Bool}{r:Bool}{g1:FuncId}{c1s:List AV}(h_q1:∀ (y1:ZO) (r:Bool),q1 y1=some r→zBb Tryz.prog g1 ([.agg [.str y1.1,.i y1.2.1,.i y1.2.2.1,.i y1.2.2.2.1,.i y1.2.2.2.2.1,.i y1.2.2.2.2.2]]++c1s) [.bool r]) (k_q1:FnIn Tryz.prog g1 c1s) (hr:f77 p0 q1=some r) : zBb Tryz.prog 77 [.sl Y1 p0,.clo (.fn g1 [] c1s)] [.bool r]:=by
 refine zAW Tryz.func77 Tryz.ntmps77 J (rs:=[.tmp 4]) J J fun w0 X hX=>?_
 obtain ⟨x1,e2,hr⟩:=zA hr
 refine sq<|rg<|V va<|nl<|an<|sq<|rg<|V vm<|V vm<|?_
 refine V (zAV (f112_runs (g1:=g1) (c1s:=c1s) h_q1 k_q1 e2).x ent112 J J)<|V vge<|V va<|?_
 obtain rfl:=Option.some.inj hr
 exact nl<|an<|cr<|zAk (l':=[(4,.bool (decide (0≤x1)))]) (zAA hX [] 4 J J wS trivial) J ⟨rfl,trivial⟩
theorem f25_runs {p0:ZS}{r:Bool}(hr:f25 p0=some r) : zBb Tryz.prog 25 [.agg [.str p0.1,.sl Y1 p0.2]] [.bool r]:=by
 refine zAW Tryz.func25 Tryz.ntmps25 J (rs:=[.tmp 2]) J J fun w0 X hX=>?_
 obtain ⟨o3,e4,hr⟩:=zA hr
 refine sq<|rg<|O ob<|V va<|nl<|an<|sq<|sq<|rg<|V vfp<|V vlp<|V vnl<|V vm<|nl<|an<|bl<|?_
 refine zAb (t:=6) J (fun hl=>?_)
 refine zAI (List.length p0.2 : Int) (f25_b0 p0) (fun p=>match p with | (i1,())=>(⟨[(1,.ptr 0 0),(2,.bool false),(6,.sl Y1 p0.2),(7,.i (List.length p0.2 : Int)),(8,.i i1)],[(0,.var 47 [.str p0.1,.sl Y1 p0.2])],1⟩ : AS)) (fun o e st=>match o with | .inl ()=>e=.exit 0∧Wk X st ⟨[(1,.ptr 0 0),(2,.bool false)],[(0,.var 47 [.str p0.1,.sl Y1 p0.2])],1⟩ | .inr ()=>e=.ret∧Wk X st ⟨[(2,.bool false)],[],0⟩) (zAf hl) e4 (by exact zAA hX [0] 4 J J wS wO) ?_ ?_
 ·intro e st hx
  rcases o3 with _ | _
  ·obtain ⟨rfl,hw⟩:=hx
   obtain ⟨x5,e6,hr⟩:=zA hr
   refine bh<|an<|(zAY hw)<|sq<|?_
   refine zAa [1] [(true,.ptr 0 0),(true,.str p0.1),(true,.bool x5),(true,.bool x5),(x5,.ptr 0 1),(x5,.sl Y1 p0.2),(x5,.i (List.length p0.2 : Int)),(x5,.bool (decide (2≤(List.length p0.2 : Int)))),(true,.bool (x5&&(decide (2≤(List.length p0.2 : Int))))),(true,.bool (x5&&(decide (2≤(List.length p0.2 : Int))))),(x5&&(decide (2≤(List.length p0.2 : Int))),.ptr 0 1),(x5&&(decide (2≤(List.length p0.2 : Int))),.sl Y1 p0.2),(x5&&(decide (2≤(List.length p0.2 : Int))),.i (List.length p0.2 : Int)),(x5&&(decide (2≤(List.length p0.2 : Int))),.bool (decide ((List.length p0.2 : Int)≤3))),(true,.bool ((x5&&(decide (2≤(List.length p0.2 : Int))))&&(decide ((List.length p0.2 : Int)≤3)))),(true,.bool ((x5&&(decide (2≤(List.length p0.2 : Int))))&&(decide ((List.length p0.2 : Int)≤3))))] [[],[0],[1],[2],[3],[4,3],[5,3],[6,3],[7,3],[8],[9],[10,9],[11,9],[12,9],[13,9],[14]] [15] J J J J J ⟨oB wfp,oB wlp,zAr J (fun hg=>zAD ⟨rfl,trivial⟩) (fun hg=>zAV (f73_runs e6).x ent73 J J),oB wm,oB wfp,oB wlp,zAr ⟨rfl,rfl,rfl,_,rfl,rfl⟩ (fun hg=>zAD ⟨hg,rfl,trivial⟩) (fun hg=>zA0 (t:=Y1) J J (undX 45 J) J),oB wge,zBe,oB wm,oB wfp,oB wlp,zAr ⟨rfl,rfl,rfl,_,rfl,rfl⟩ (fun hg=>zAD ⟨hg,rfl,trivial⟩) (fun hg=>zA0 (t:=Y1) J J (undX 45 J) J),oB wle,zBe,oB wa,trivial⟩ (zAD ⟨rfl,trivial⟩) ?_
   obtain rfl:=Option.some.inj hr
   exact zAZ (zAw (zAk (l':=[(2,.bool ((x5&&(decide (2≤(List.length p0.2 : Int))))&&(decide ((List.length p0.2 : Int)≤3))))]) (zAA hX [] 4 J J wS trivial) J ⟨rfl,trivial⟩))
  obtain ⟨rfl,hw⟩:=hx
  obtain rfl:=Option.some.inj hr
  exact zAE (zAC (zAk (l':=[(2,.bool false)]) (Wk.trans hw (zAA hX [] 4 J J wS trivial)) J ⟨rfl,trivial⟩))
 rintro i1 _ o ho
 refine sq<|rg<|V vls<|nl<|an<|sq<|?_
 refine zAO (b:=decide (i1 < (List.length p0.2 : Int))) J (fun hc7=>?_) (fun hc7=>?_)
 ·obtain ⟨q,hr,rfl⟩:=zA7 hc7 ho
  obtain ⟨x8,e9,hr⟩:=zA hr
  obtain ⟨x10,e11,hr⟩:=zA hr
  refine sk<|an<|sq<|bl<|sq<|rg<|V vm<|?_
  refine V (zAQ (t:=Y1) (e:=x8) (undX 45 J) (szX 49 J) J J e9)<|V vlR<|O oa<|V va<|O os<|nl<|an<|sq<|?_
  obtain ⟨h12,hr⟩:=zAN hr
  obtain ⟨h13,hr⟩:=zAN hr
  refine zAa [1,2,6,7,8,4,3] [(true,.agg [.str x8.1,.i x8.2.1,.i x8.2.2.1,.i x8.2.2.2.1,.i x8.2.2.2.2.1,.i x8.2.2.2.2.2]),(true,.bool x10),(true,.bool (!x10)),(true,.bool (!x10)),(!(!x10),.ptr 0 1),(!(!x10),.sl Y1 p0.2),(!(!x10),.i i1),(!(!x10),.sl Y1 ((p0.2.take (Int.toNat i1)).drop (Int.toNat 0))),(!(!x10),.fn 78 [] [.ptr 1 0]),(!(!x10),.bool ((f77 ((p0.2.take (Int.toNat i1)).drop (Int.toNat 0)) (fun y1=>f78 y1 x8)).getD default)),(true,.bool ((!x10)||((f77 ((p0.2.take (Int.toNat i1)).drop (Int.toNat 0)) (fun y1=>f78 y1 x8)).getD default)))] [[],[0],[1],[2],[3],[4,3],[3],[5,6,3],[3],[7,8,3],[9,3]] [10] J J J J J ⟨oB wlP,zAr J (fun hg=>zAD ⟨rfl,trivial⟩) (fun hg=>zAV (f76_runs e11).x ent76 J J),oB wno,oB wm,oB wfp,oB wlp,oB wm,zAr ⟨rfl,rfl,rfl,_,rfl,rfl⟩ (fun hg=>zAD ⟨hg,hg,rfl,trivial⟩) (fun hg=>av_slice_sl (t:=Y1) (l:=0) (h:=i1) (undX 45 J) (szX 49 J) J J ⟨_,rfl⟩ (imp_g h12 hg)),zAr ⟨rfl,rfl,rfl,_,rfl,rfl⟩ (fun hg=>zAD ⟨rfl,trivial⟩) (fun hg=>zA4 (us:=[]) (vs:=[.ptr 1 0]) J J),zAr ⟨rfl,rfl,rfl,_,rfl,rfl⟩ (fun hg=>zAD ⟨hg,hg,rfl,trivial⟩) (fun hg=>zAj (as':=[.sl Y1 ((p0.2.take (Int.toNat i1)).drop (Int.toNat 0)),.fn 78 [] [.ptr 1 0]]) (f77_runs (q1:=(fun y1=>f78 y1 x8)) (g1:=78) (c1s:=[.rp [.str x8.1,.i x8.2.1,.i x8.2.2.1,.i x8.2.2.2.1,.i x8.2.2.2.2.1,.i x8.2.2.2.2.2]]) (fun _ r h=>(have h2:=f78_runs h; h2)) ⟨ent78⟩ (zAz h13 hg)).x ent77 J ⟨cv0,(cv3 J),trivial⟩ J J),zBr,trivial⟩ (zAD ⟨rfl,trivial⟩) ?_
  refine an<|?_
  refine cnd (fun hc14 hr=>?_) (fun hc14 hr=>?_)
  ·refine sq<|rg<|V va<|?_
   obtain rfl:=Option.some.inj hr
   exact nl<|an<|cr<|zAE (zAC (⟨rfl,(zAA hX [] 4 J J wS trivial)⟩))
  refine sk<|bn<|an<|rg<|V vad<|V vm<|?_
  obtain rfl:=Option.some.inj hr
  exact zAJ ((zAA hX [0] 4 J J wS wO))
 obtain rfl:=zA8 hc7 ho
 exact zAH (zAF (⟨rfl,(zAA hX [0] 4 J J wS wO)⟩))
theorem ent79 : Enters Tryz.prog 79:=enters_of Tryz.func79 (by kernel_rfl) rfl
theorem app45 : AppT Tryz.prog 45 49 (Ty.cells Y1) 56:=appT_of (z:=.agg #[.string ByteArray.empty,.int .i64 0,.int .i64 0,.int .i64 0,.int .i64 0,.int .i64 0]) (by kernel_rfl) (by kernel_rfl) J rfl
theorem ent25 : Enters Tryz.prog 25:=enters_of Tryz.func25 (by kernel_rfl) rfl
theorem ent27 : Enters Tryz.prog 27:=enters_of Tryz.func27 (by kernel_rfl) rfl
theorem ent26 : Enters Tryz.prog 26:=enters_of Tryz.func26 (by kernel_rfl) rfl
theorem bt76 : zC4 Tryz.prog 76 (.agg #[.slice none 0 0,.map none,.map none,.int .i64 0,.int .i64 0]) (fun i=>[(0,1),(1,1),(2,1),(3,1),(4,1)][i]?):=zBn (zeroX 76 J) (fs:=Tryz.prog.fieldsOf 76) (by kernel_rfl) (fun w=>by kernel_rfl)
theorem ent28 : Enters Tryz.prog 28:=enters_of Tryz.func28 (by kernel_rfl) rfl
theorem app22 : AppT Tryz.prog 22 47 (Ty.cells Y2) 40:=appT_of (z:=.agg #[.string ByteArray.empty,.slice none 0 0]) (by kernel_rfl) (by kernel_rfl) J rfl
theorem mixed : Tryz.prog.follows .mixedOrders=true:=by kernel_rfl
theorem ent72 : Enters Tryz.prog 72:=enters_of Tryz.func72 (by kernel_rfl) rfl
theorem bt54 : zC4 Tryz.prog 54 (.agg #[.int .i64 0,.int .i64 0,.string ByteArray.empty]) (fun i=>[(0,1),(1,1),(2,1)][i]?):=zBn (zeroX 54 J) (fs:=Tryz.prog.fieldsOf 54) (by kernel_rfl) (fun w=>by kernel_rfl)
theorem kt3 : KeyT Tryz.prog 3 (.int .i64):=keyT_int (by kernel_rfl)
theorem f27_runs {p0:ZS}{p1:ZS}{r:Bool}(hr:f27 p0 p1=some r) : zBb Tryz.prog 27 [.agg [.str p0.1,.sl Y1 p0.2],.rp [.str p1.1,.sl Y1 p1.2]] [.bool r]:=by
 refine zAW Tryz.func27 Tryz.ntmps27 J (rs:=[.tmp 3]) J J fun w0 X hX=>?_
 refine sq<|rg<|O ob<|V va<|nl<|an<|sq<|rg<|V vfp<|V vlp<|V vfr<|V vlr<|V ves<|V va<|?_
 obtain rfl:=Option.some.inj hr
 exact nl<|an<|cr<|zAk (l':=[(3,.bool (decide (p0.1=p1.1)))]) (zAA hX [] 4 J J wS trivial) J ⟨rfl,trivial⟩
theorem f79_runs {p0:List (ZS)}{q1:(ZS)→Option Bool}{r:Int}{g1:FuncId}{c1s:List AV}(h_q1:∀ (y1:ZS) (r:Bool),q1 y1=some r→zBb Tryz.prog g1 ([.agg [.str y1.1,.sl Y1 y1.2]]++c1s) [.bool r]) (k_q1:FnIn Tryz.prog g1 c1s) (hr:f79 p0 q1=some r) : zBb Tryz.prog 79 [.sl Y2 p0,.clo (.fn g1 [] c1s)] [.i r]:=by
 refine zAW Tryz.func79 Tryz.ntmps79 J (rs:=[.tmp 4]) J J fun w0 X hX=>?_
 obtain ⟨o4,e5,hr⟩:=zA hr
 refine sq<|rg<|V va<|nl<|an<|sq<|sq<|rg<|V vm<|V vnl<|V vm<|nl<|an<|bl<|?_
 refine zAb (t:=0) J (fun hl=>?_)
 refine zAI (List.length p0 : Int) (f79_b0 p0 q1) (fun p=>match p with | (i1,())=>(⟨[(0,.sl Y2 p0),(1,.clo (.fn g1 [] c1s)),(4,.i 0),(7,.i (List.length p0 : Int)),(8,.i i1)],[],0⟩ : AS)) (fun o e st=>match o with | .inl ()=>e=.exit 0∧Wk X st ⟨[(4,.i 0)],[],0⟩ | .inr s3=>e=.ret∧Wk X st ⟨[(4,.i s3)],[],0⟩) (zAf hl) e5 (by exact zAA hX [] 4 J J wS trivial) ?_ ?_
 ·intro e st hx
  rcases o4 with _ | s3
  ·obtain ⟨rfl,hw⟩:=hx
   refine bh<|an<|(zAY hw)<|sq<|rg<|V va<|?_
   obtain rfl:=Option.some.inj hr
   exact nl<|an<|cr<|zAk (l':=[(4,.i (-1))]) (zAA hX [] 4 J J wS trivial) J ⟨rfl,trivial⟩
  obtain ⟨rfl,hw⟩:=hx
  obtain rfl:=Option.some.inj hr
  exact zAE (zAC (zAk (l':=[(4,.i s3)]) (Wk.trans hw (zAA hX [] 4 J J wS trivial)) J ⟨rfl,trivial⟩))
 rintro i1 _ o ho
 refine sq<|rg<|V vls<|nl<|an<|sq<|?_
 refine zAO (b:=decide (i1 < (List.length p0 : Int))) J (fun hc6=>?_) (fun hc6=>?_)
 ·obtain ⟨q,hr,rfl⟩:=zA7 hc6 ho
  obtain ⟨x7,e8,hr⟩:=zA hr
  obtain ⟨x9,e10,hr⟩:=zA hr
  refine sk<|an<|sq<|bl<|sq<|rg<|V vm<|V va<|nl<|an<|sq<|rg<|V vm<|V vm<|V vm<|?_
  refine V (zAQ (t:=Y2) (e:=x7) (undX 22 J) (szX 47 J) J J e8)<|V vlR<|?_
  refine V (av_callq J (h_q1 x7 x9 e10).x k_q1 J J J)<|nl<|an<|?_
  refine cnd (fun hc11 hr=>?_) (fun hc11 hr=>?_)
  ·refine sq<|rg<|V vm<|V va<|?_
   obtain rfl:=Option.some.inj hr
   exact nl<|an<|cr<|zAE (zAC (⟨rfl,(zAA hX [] 4 J J wS trivial)⟩))
  refine sk<|bn<|an<|rg<|V vad<|V vm<|?_
  obtain rfl:=Option.some.inj hr
  exact zAJ ((zAA hX [] 4 J J wS trivial))
 obtain rfl:=zA8 hc6 ho
 exact zAH (zAF (⟨rfl,(zAA hX [] 4 J J wS trivial)⟩))
theorem f26_runs {p0:List (ZS)}{q1:(ZS)→Option Bool}{r:Bool}{g1:FuncId}{c1s:List AV}(h_q1:∀ (y1:ZS) (r:Bool),q1 y1=some r→zBb Tryz.prog g1 ([.agg [.str y1.1,.sl Y1 y1.2]]++c1s) [.bool r]) (k_q1:FnIn Tryz.prog g1 c1s) (hr:f26 p0 q1=some r) : zBb Tryz.prog 26 [.sl Y2 p0,.clo (.fn g1 [] c1s)] [.bool r]:=by
 refine zAW Tryz.func26 Tryz.ntmps26 J (rs:=[.tmp 4]) J J fun w0 X hX=>?_
 obtain ⟨x1,e2,hr⟩:=zA hr
 refine sq<|rg<|V va<|nl<|an<|sq<|rg<|V vm<|V vm<|?_
 refine V (zAV (f79_runs (g1:=g1) (c1s:=c1s) h_q1 k_q1 e2).x ent79 J J)<|V vge<|V va<|?_
 obtain rfl:=Option.some.inj hr
 exact nl<|an<|cr<|zAk (l':=[(4,.bool (decide (0≤x1)))]) (zAA hX [] 4 J J wS trivial) J ⟨rfl,trivial⟩
theorem f28_runs {p0:List (ZO)}{r:(List (ZO))}(hr:f28 p0=some r) : zBb Tryz.prog 28 [.sl Y1 p0] [.sl Y1 r]:=by
 refine zAW Tryz.func28 Tryz.ntmps28 J (rs:=[.tmp 2]) J J fun w0 X hX=>?_
 refine sq<|rg<|V va<|nl<|an<|sq<|sq<|rg<|V vm<|?_
 refine zAK (aop_eqnil (undX 45 J) J J (fun b1 hb2=>?_))
 refine nl<|an<|?_
 refine zAO (b:=b1) J (fun hc3=>?_) (fun hc3=>?_)
 ·obtain rfl:=hb2 hc3
  refine sq<|rg<|V va<|?_
  have hr : some ([] : List (ZO))=some _:=hr
  obtain rfl:=Option.some.inj hr
  exact nl<|an<|cr<|zAC (zAk (l':=[(2,.sl Y1 ([] : List (ZO)))]) (zAA hX [] 4 J J ⟨⟨_,rfl,cv2⟩,trivial⟩ trivial) J ⟨rfl,trivial⟩)
 refine sk<|an<|sq<|rg<|?_
 refine zAK (zBq (t:=Y1) (qs:=[]) (ys:=([] : List (ZO))) bs45 J J J J J J J J ?_)
 refine V vm<|?_
 obtain ⟨h4,hr⟩:=zAN hr
 refine zAK (zAh J J app45 J J J h4 J ?_)
 refine V va<|?_
 obtain rfl:=Option.some.inj hr
 exact nl<|an<|cr<|zAk (l':=[(2,.sl Y1 (([] : List (ZO))++p0))]) (zAA hX [] 4 J J wS trivial) J ⟨rfl,trivial⟩
theorem f8_runs {p0:List (ZS)}{r:Int×(Option (ZW))}(hr:f8 p0=some r) : Runs Tryz.prog 8 [.sl Y2 p0] [] (fun q Hq=>q=[.map 0,.i r.1]∧Hq=[.tr E76 r.2]):=by
 refine zAW Tryz.func8 Tryz.ntmps8 J (rs:=[.tmp 2,.tmp 3]) J J fun w0 X hX=>?_
 obtain ⟨o4,e5,hr⟩:=zA hr
 refine sq<|rg<|V va<|V va<|nl<|an<|sq<|sq<|rg<|V vm<|V vnl<|V vm<|nl<|an<|bl<|?_
 refine zAb (t:=0) J (fun hl=>?_)
 refine zAI (List.length p0 : Int) (f8_b0 p0) (fun p=>match p with | (i2,())=>(⟨[(0,.sl Y2 p0),(2,.nilp),(3,.i 0),(9,.sl Y2 p0),(10,.i (List.length p0 : Int)),(11,.i i2)],[],0⟩ : AS)) (fun o e st=>match o with | .inl ()=>e=.exit 0∧Wk X st ⟨[(0,.sl Y2 p0),(2,.nilp),(3,.i 0)],[],0⟩ | .inr ()=>e=.ret∧Wk X st ⟨[(2,.nilp),(3,.i 1)],[],0⟩) (zAf hl) e5 (by exact zAA hX [] 4 J J wS trivial) ?_ ?_
 ·intro e st hx
  rcases o4 with _ | _
  ·obtain ⟨rfl,hw⟩:=hx
   refine bh<|an<|(zAY hw)<|sq<|sq<|rg<|V vm<|V vnl<|V vgt<|nl<|an<|?_
   refine cnd (fun hc6 hr=>?_) (fun hc6 hr=>?_)
   ·refine sq<|rg<|V va<|V va<|?_
    obtain rfl:=Option.some.inj hr
    exact nl<|an<|cr<|zAC (zAe (l':=[(2,.map 0),(3,.i 1)]) (Hs:=[(0,.tr E76 none)]) (n:=1) (Wk.trans (wk_trnil (t:=2) E76 J J) (zAA hX [0] 4 J J wS wO)) J J J ⟨rfl,rfl,trivial⟩)
   refine sk<|an<|sq<|rg<|?_
   refine zAK (zB6 .i Y4 J ?_)
   refine zAK (zB6 .i Y5 J ?_)
   obtain ⟨o12,e13,hr⟩:=zA hr
   refine V (zAs (qs:=[(1,[.map 0]),(2,[.map 1]),(3,[.i 1]),(4,[.i 1])]) (cs:=[.nils,.map 0,.map 1,.i 1,.i 1]) bt76 J J J)<|O ob<|V va<|nl<|an<|sq<|sq<|rg<|V vm<|V vnl<|V vm<|nl<|an<|bl<|?_
   refine zAb (t:=0) J (fun hl=>?_)
   refine zAI (List.length p0 : Int) (f8_b1 p0) (fun p=>match p with | (i7,s9)=>(⟨[(2,.nilp),(3,.i 0),(6,.ptr 0 0),(34,.sl Y2 p0),(35,.i (List.length p0 : Int)),(36,.i i7)],[(0,.var 76 [.osl 1,.map 2,.map 3,.i 1,.i 1]),(1,.sl 47 Y2 s9),(2,.map .i Y4 []),(3,.map .i Y5 [])],4⟩ : AS)) (fun o e st=>match o with | .inr _=>False | .inl s9=>e=.exit 2∧Wk X st ⟨[(2,.nilp),(3,.i 0),(6,.ptr 0 0)],[(0,.var 76 [.osl 1,.map 2,.map 3,.i 1,.i 1]),(1,.sl 47 Y2 s9),(2,.map .i Y4 []),(3,.map .i Y5 [])],4⟩) (zAf hl) e13 (Wk.trans (wk_ownC (i:=2) (o:=0) 47 Y2 J J J) (by exact zAA hX [2,3,0,1] 4 J J wS wO)) ?_ ?_
   ·intro e st hx
    rcases o12 with s9 | _
    ·obtain ⟨rfl,hw⟩:=hx
     refine bh<|an<|(zAY hw)<|sq<|rg<|V vm<|V va<|V va<|?_
     obtain rfl:=Option.some.inj hr
     exact nl<|an<|cr<|zAe (l':=[(2,.map 0),(3,.i 0)]) (Hs:=[(0,.tr E76 (some (s9,[],[],1,1)))]) (n:=1) (Wk.trans (zAA (st':=⟨[(2,.ptr 0 0),(3,.i 0),(6,.ptr 0 0),(55,.ptr 0 0)],[(0,.var 76 [.sl Y2 s9,.map 1,.map 2,.i 1,.i 1]),(1,.map .i Y4 []),(2,.map .i Y5 [])],3⟩) hX [0,2,3] 4 J J wS wO) (Wk.trans (pk (i:=0) (e:=F76) (js:=[1,2]) (s9,[],[],1,1)) (zAA hX [0] 4 J J ⟨⟨_,rfl,cv6⟩,⟨_,rfl,cv0⟩,trivial⟩ wO))) J J J ⟨rfl,rfl,trivial⟩
    exact hx.elim
   rintro i7 s9 o ho
   refine sq<|rg<|V vls<|nl<|an<|sq<|?_
   refine zAO (b:=decide (i7 < (List.length p0 : Int))) J (fun hc14=>?_) (fun hc14=>?_)
   ·obtain ⟨q,hr,rfl⟩:=zA7 hc14 ho
    obtain ⟨x15,e16,hr⟩:=zA hr
    obtain ⟨x17,e18,hr⟩:=zA hr
    refine sk<|an<|sq<|bl<|sq<|rg<|V (zAQ (t:=Y2) (e:=x15) (undX 22 J) (szX 47 J) J J e16)<|V vlR<|O oa<|O os<|nl<|an<|sq<|rg<|V vfp<|V vlp<|?_
    refine V (zAV (f28_runs e18).x ent28 J J)<|V vfp<|O os<|nl<|an<|?_
    obtain ⟨h19,hr⟩:=zAN hr
    refine zCV (st2:=⟨[(2,.nilp),(3,.i 0),(6,.ptr 0 0),(34,.sl Y2 p0),(35,.i (List.length p0 : Int)),(36,.i i7),(51,.osl 5)],[(0,.var 76 [.osl 1,.map 2,.map 3,.i 1,.i 1]),(1,.dead),(2,.map .i Y4 []),(3,.map .i Y5 []),(4,.var 47 [.str x15.1,.sl Y1 x17]),(5,.sl 47 Y2 (s9++[(x15.1,x17)]))],6⟩) 7 [0] [0,2,3,4,7,6,7] [[],[],[],[],[],[],[]] mixed [2,3,6,34,35,36,8] [(true,.ptr 0 0),(true,.ptr 0 0),(true,.ptr 0 0),(true,.ptr 0 0),(true,.osl 1),(true,.agg [.str x15.1,.sl Y1 x17]),(true,.sl Y2 [(x15.1,x17)])] [[],[],[1],[2],[3],[],[5]] [4,6] [2,3,6,34,35,36,51] rfl rfl rfl rfl rfl rfl rfl rfl rfl rfl rfl rfl ⟨oB wm,oB wm,oB wnp,oB wfp,oB wlp,oB wlP,zAr rfl (fun hg=>zAD ⟨rfl,trivial⟩) (fun hg=>zAM (t:=Y2) (qs:=[(0,[.str x15.1,.sl Y1 x17])]) (ys:=[(x15.1,x17)]) bs22 rfl rfl rfl rfl rfl rfl rfl rfl),trivial⟩ (zAD ⟨rfl,rfl,trivial⟩) rfl ⟨(fun X' o ho=>by obtain rfl:=Option.some.inj ho; exact zAg rfl),trivial⟩ rfl (fun X'=>zAh rfl rfl app22 rfl rfl rfl h19 rfl ⟨⟨rfl,rfl,rfl,rfl,rfl,rfl,rfl,trivial⟩,⟨rfl,rfl,rfl,rfl,rfl,rfl,trivial⟩,rfl⟩) ?_
    refine V vnp<|V vfp<|O os<|nl<|bn<|an<|rg<|V vad<|V vm<|?_
    obtain rfl:=Option.some.inj hr
    exact zAJ ((zAA hX [0,5,2,3] 4 J J wS wO))
   obtain rfl:=zA8 hc14 ho
   exact zAH (zAF (⟨rfl,(zAA hX [0,1,2,3] 4 J J wS wO)⟩))
  obtain ⟨rfl,hw⟩:=hx
  obtain rfl:=Option.some.inj hr
  exact zAE (zAC (zAe (l':=[(2,.map 0),(3,.i 1)]) (Hs:=[(0,.tr E76 none)]) (n:=1) (Wk.trans hw (Wk.trans (wk_trnil (t:=2) E76 J J) (zAA hX [0] 4 J J wS wO))) J J J ⟨rfl,rfl,trivial⟩))
 rintro i2 _ o ho
 refine sq<|rg<|V vls<|nl<|an<|sq<|?_
 refine zAO (b:=decide (i2 < (List.length p0 : Int))) J (fun hc20=>?_) (fun hc20=>?_)
 ·obtain ⟨q,hr,rfl⟩:=zA7 hc20 ho
  obtain ⟨x21,e22,hr⟩:=zA hr
  obtain ⟨x23,e24,hr⟩:=zA hr
  refine sk<|an<|sq<|bl<|sq<|rg<|V vm<|?_
  refine V (zAQ (t:=Y2) (e:=x21) (undX 22 J) (szX 47 J) J J e22)<|V vlR<|O oa<|V va<|O os<|nl<|an<|sq<|?_
  obtain ⟨h25,hr⟩:=zAN hr
  obtain ⟨h26,hr⟩:=zAN hr
  refine zAa [0,2,3,9,10,11,5,4] [(true,.agg [.str x21.1,.sl Y1 x21.2]),(true,.bool x23),(true,.bool (!x23)),(true,.bool (!x23)),(!(!x23),.sl Y2 p0),(!(!x23),.i i2),(!(!x23),.sl Y2 ((p0.take (Int.toNat i2)).drop (Int.toNat 0))),(!(!x23),.fn 27 [] [.ptr 0 0]),(!(!x23),.bool ((f26 ((p0.take (Int.toNat i2)).drop (Int.toNat 0)) (fun y1=>f27 y1 x21)).getD default)),(true,.bool ((!x23)||((f26 ((p0.take (Int.toNat i2)).drop (Int.toNat 0)) (fun y1=>f27 y1 x21)).getD default)))] [[],[0],[1],[2],[3],[3],[4,5,3],[3],[6,7,3],[8,3]] [9] J J J J J ⟨oB wlP,zAr J (fun hg=>zAD ⟨rfl,trivial⟩) (fun hg=>zAV (f25_runs e24).x ent25 J J),oB wno,oB wm,oB wm,oB wm,zAr ⟨rfl,rfl,rfl,_,rfl,rfl⟩ (fun hg=>zAD ⟨hg,hg,rfl,trivial⟩) (fun hg=>av_slice_sl (t:=Y2) (l:=0) (h:=i2) (undX 22 J) (szX 47 J) J J ⟨_,rfl⟩ (imp_g h25 hg)),zAr ⟨rfl,rfl,rfl,_,rfl,rfl⟩ (fun hg=>zAD ⟨rfl,trivial⟩) (fun hg=>zA4 (us:=[]) (vs:=[.ptr 0 0]) J J),zAr ⟨rfl,rfl,rfl,_,rfl,rfl⟩ (fun hg=>zAD ⟨hg,hg,rfl,trivial⟩) (fun hg=>zAj (as':=[.sl Y2 ((p0.take (Int.toNat i2)).drop (Int.toNat 0)),.fn 27 [] [.ptr 0 0]]) (f26_runs (q1:=(fun y1=>f27 y1 x21)) (g1:=27) (c1s:=[.rp [.str x21.1,.sl Y1 x21.2]]) (fun _ r h=>(have h2:=f27_runs h; h2)) ⟨ent27⟩ (zAz h26 hg)).x ent26 J ⟨cv0,(cv3 J),trivial⟩ J J),zBr,trivial⟩ (zAD ⟨rfl,trivial⟩) ?_
  refine an<|?_
  refine cnd (fun hc27 hr=>?_) (fun hc27 hr=>?_)
  ·refine sq<|rg<|V va<|V va<|?_
   obtain rfl:=Option.some.inj hr
   exact nl<|an<|cr<|zAE (zAC (⟨rfl,(zAA hX [] 4 J J wS trivial)⟩))
  refine sk<|bn<|an<|rg<|V vad<|V vm<|?_
  obtain rfl:=Option.some.inj hr
  exact zAJ ((zAA hX [] 4 J J wS trivial))
 obtain rfl:=zA8 hc20 ho
 exact zAH (zAF (⟨rfl,(zAA hX [] 4 J J wS trivial)⟩))
theorem f72_runs {p0:Int}{r:Bool}(hr:f72 p0=some r) : zBb Tryz.prog 72 [.i p0] [.bool r]:=by
 refine zAW Tryz.func72 Tryz.ntmps72 J (rs:=[.tmp 2]) J J fun w0 X hX=>?_
 refine sq<|rg<|V va<|nl<|an<|sq<|?_
 refine zAa [0] [(true,.i p0),(true,.bool (decide (0≤p0))),(true,.bool (decide (0≤p0))),(decide (0≤p0),.i p0),(decide (0≤p0),.bool (decide (p0≤1000))),(true,.bool ((decide (0≤p0))&&(decide (p0≤1000)))),(true,.bool ((decide (0≤p0))&&(decide (p0≤1000))))] [[],[0],[1],[2],[3,2],[4,2],[5]] [6] J J J J J ⟨oB wm,oB wge,oB wm,oB wm,oB wle,zBe,oB wa,trivial⟩ (zAD ⟨rfl,trivial⟩) ?_
 obtain rfl:=Option.some.inj hr
 exact zAZ (zAw (zAk (l':=[(2,.bool ((decide (0≤p0))&&(decide (p0≤1000))))]) (zAA hX [] 4 J J wS trivial) J ⟨rfl,trivial⟩))
theorem f23_runs {p0_0:ZW}{p1:Int}{p2:Str}{r:Int×Int×(ZW)}(hr:f23 p0_0 p1 p2=some r) : Runs Tryz.prog 23 [.ptr 0 0,.i p1,.str p2] [.tr E76 (some p0_0)] (fun q Hq=>q=[.i r.1,.i r.2.1]∧Hq=[.tr E76 (some r.2.2)]):=by
 refine zAW Tryz.func23 Tryz.ntmps23 J (rs:=[.tmp 6,.tmp 7]) J J fun w0 X hX=>?_
 refine sq<|rg<|V va<|V va<|nl<|an<|sq<|bl<|sq<|?_
 refine zAa [0,1,2,6,7] [(true,.ptr 0 0),(true,.bool false),(true,.bool false),(!false,.str p2),(!false,.i (List.length p2 : Int)),(!false,.bool (decide (1000 < (List.length p2 : Int)))),(true,.bool (false||(decide (1000 < (List.length p2 : Int))))),(true,.bool (false||(decide (1000 < (List.length p2 : Int)))))] [[],[0],[1],[2],[3,2],[4,2],[5,2],[6]] [7] J J J J J ⟨oB wm,zAr J (fun hg=>zAD ⟨rfl,trivial⟩) (fun hg=>av_ptrnil (undX 26 J) J J),oB wm,oB wm,oB wnt,oB wgt,zBr,oB wa,trivial⟩ (zAD ⟨rfl,trivial⟩) ?_
 refine an<|?_
 refine cnd (fun hc2 hr=>?_) (fun hc2 hr=>?_)
 ·refine sq<|rg<|V va<|V va<|?_
  obtain rfl:=Option.some.inj hr
  exact nl<|an<|cr<|zAE (zAC (zAe (l':=[(6,.i 0),(7,.i 1)]) (Hs:=[(0,.tr E76 (some p0_0))]) (n:=1) (zAA hX [0] 4 J J wS wO) J J J ⟨rfl,rfl,trivial⟩))
 obtain ⟨x3,e4,hr⟩:=zA hr
 refine sq<|rg<|V vm<|?_
 refine V (zAV (f72_runs e4).x ent72 J J)<|V vno<|V va<|nl<|an<|?_
 refine cnd (fun hc5 hr=>?_) (fun hc5 hr=>?_)
 ·refine sq<|rg<|V va<|V va<|?_
  obtain rfl:=Option.some.inj hr
  exact nl<|an<|cr<|zAE (zAC (zAe (l':=[(6,.i 0),(7,.i 7)]) (Hs:=[(0,.tr E76 (some p0_0))]) (n:=1) (zAA hX [0] 4 J J wS wO) J J J ⟨rfl,rfl,trivial⟩))
 refine sq<|rg<|V vm<|V vnp<|V vfp<|?_
 refine zAG (zAd (i:=0) (W76 p0_0 1 2) [.map .i Y4 p0_0.2.1,.map .i Y5 p0_0.2.2.1] J J J J)<|V vlp<|?_
 refine V (zCa (tk:=.i) (tv:=Y4) J J (undX 73 J) J J)<|V veq<|V va<|nl<|an<|?_
 refine cnd (fun hc6 hr=>?_) (fun hc6 hr=>?_)
 ·refine sq<|rg<|V va<|V va<|?_
  obtain rfl:=Option.some.inj hr
  exact nl<|an<|cr<|zAE (zAC (zAe (l':=[(6,.i 0),(7,.i 4)]) (Hs:=[(0,.tr E76 (some p0_0))]) (n:=1) (Wk.trans (pk (i:=0) (e:=F76) (js:=[1,2]) p0_0) (zAA hX [0] 4 J J wS wO)) J J J ⟨rfl,rfl,trivial⟩))
 refine sk<|bn<|an<|sq<|rg<|V vm<|V vnp<|V vfp<|V vlp<|V va<|nl<|an<|sq<|rg<|V vm<|V vnp<|V vfp<|V vlp<|V vm<|V vm<|V vm<|V vm<|?_
 refine V (zAs (qs:=[(0,[.i p0_0.2.2.2.1]),(1,[.i p1]),(2,[.str p2])]) (cs:=[.i p0_0.2.2.2.1,.i p1,.str p2]) bt54 J J J)<|?_
 refine zAK (zB (kx:=p0_0.2.2.2.1) (vx:=(p0_0.2.2.2.1,p1,p2)) (undX 73 J) kt3 (.inl J) J J J J J J J ?_)
 refine nl<|an<|sq<|rg<|V vm<|V vnp<|V vfp<|V vlp<|V vad<|V vnp<|V vfp<|O os<|nl<|an<|sq<|rg<|V vm<|V va<|V va<|?_
 obtain rfl:=Option.some.inj hr
 exact nl<|an<|cr<|zAe (l':=[(6,.i p0_0.2.2.2.1),(7,.i 0)]) (Hs:=[(0,.tr E76 (some (p0_0.1,(mset p0_0.2.1 p0_0.2.2.2.1 (p0_0.2.2.2.1,p1,p2)),p0_0.2.2.1,(w64 (p0_0.2.2.2.1+1)),p0_0.2.2.2.2)))]) (n:=1) (Wk.trans (pk (i:=0) (e:=F76) (js:=[1,2]) (p0_0.1,(mset p0_0.2.1 p0_0.2.2.2.1 (p0_0.2.2.2.1,p1,p2)),p0_0.2.2.1,(w64 (p0_0.2.2.2.1+1)),p0_0.2.2.2.2)) (zAA hX [0] 4 J J wS wO)) J J J ⟨rfl,rfl,trivial⟩
theorem f110_runs {p0:List Int}{q1:Int→Option Bool}{r:Int}{g1:FuncId}{c1s:List AV}(h_q1:∀ (y1:Int) (r:Bool),q1 y1=some r→zBb Tryz.prog g1 ([.i y1]++c1s) [.bool r]) (k_q1:FnIn Tryz.prog g1 c1s) (hr:f110 p0 q1=some r) : zBb Tryz.prog 110 [.sl .i p0,.clo (.fn g1 [] c1s)] [.i r]:=by
 refine zAW Tryz.func110 Tryz.ntmps110 J (rs:=[.tmp 4]) J J fun w0 X hX=>?_
 obtain ⟨o4,e5,hr⟩:=zA hr
 refine sq<|rg<|V va<|nl<|an<|sq<|sq<|rg<|V vm<|V vnl<|V vm<|nl<|an<|bl<|?_
 refine zAb (t:=0) J (fun hl=>?_)
 refine zAI (List.length p0 : Int) (f110_b0 p0 q1) (fun p=>match p with | (i1,())=>(⟨[(0,.sl .i p0),(1,.clo (.fn g1 [] c1s)),(4,.i 0),(7,.i (List.length p0 : Int)),(8,.i i1)],[],0⟩ : AS)) (fun o e st=>match o with | .inl ()=>e=.exit 0∧Wk X st ⟨[(4,.i 0)],[],0⟩ | .inr s3=>e=.ret∧Wk X st ⟨[(4,.i s3)],[],0⟩) (zAf hl) e5 (by exact zAA hX [] 4 J J wS trivial) ?_ ?_
 ·intro e st hx
  rcases o4 with _ | s3
  ·obtain ⟨rfl,hw⟩:=hx
   refine bh<|an<|(zAY hw)<|sq<|rg<|V va<|?_
   obtain rfl:=Option.some.inj hr
   exact nl<|an<|cr<|zAk (l':=[(4,.i (-1))]) (zAA hX [] 4 J J wS trivial) J ⟨rfl,trivial⟩
  obtain ⟨rfl,hw⟩:=hx
  obtain rfl:=Option.some.inj hr
  exact zAE (zAC (zAk (l':=[(4,.i s3)]) (Wk.trans hw (zAA hX [] 4 J J wS trivial)) J ⟨rfl,trivial⟩))
 rintro i1 _ o ho
 refine sq<|rg<|V vls<|nl<|an<|sq<|?_
 refine zAO (b:=decide (i1 < (List.length p0 : Int))) J (fun hc6=>?_) (fun hc6=>?_)
 ·obtain ⟨q,hr,rfl⟩:=zA7 hc6 ho
  obtain ⟨x7,e8,hr⟩:=zA hr
  obtain ⟨x9,e10,hr⟩:=zA hr
  refine sk<|an<|sq<|bl<|sq<|rg<|V vm<|V va<|nl<|an<|sq<|rg<|V vm<|V vm<|V vm<|?_
  refine V (zAQ (t:=.i) (e:=x7) (undX 33 J) (szX 3 J) J J e8)<|V vlr<|?_
  refine V (av_callq J (h_q1 x7 x9 e10).x k_q1 J J J)<|nl<|an<|?_
  refine cnd (fun hc11 hr=>?_) (fun hc11 hr=>?_)
  ·refine sq<|rg<|V vm<|V va<|?_
   obtain rfl:=Option.some.inj hr
   exact nl<|an<|cr<|zAE (zAC (⟨rfl,(zAA hX [] 4 J J wS trivial)⟩))
  refine sk<|bn<|an<|rg<|V vad<|V vm<|?_
  obtain rfl:=Option.some.inj hr
  exact zAJ ((zAA hX [] 4 J J wS trivial))
 obtain rfl:=zA8 hc6 ho
 exact zAH (zAF (⟨rfl,(zAA hX [] 4 J J wS trivial)⟩))
theorem ent110 : Enters Tryz.prog 110:=enters_of Tryz.func110 (by kernel_rfl) rfl
theorem ent111 : Enters Tryz.prog 111:=enters_of Tryz.func111 (by kernel_rfl) rfl
theorem ent97 : Enters Tryz.prog 97:=enters_of Tryz.func97 (by kernel_rfl) rfl
theorem ent66 : Enters Tryz.prog 66:=enters_of Tryz.func66 (by kernel_rfl) rfl
theorem zw54 : ZeroW Tryz.prog 54 Y4:=zeroW_of (z:=.agg #[.i 0,.i 0,.string ByteArray.empty]) (fun w=>by kernel_rfl) J (fun h=>by cases h)
theorem bs33 : BuildS Tryz.prog 33 3 (.int .i64):=zCh (z:=.int .i64 0) (by kernel_rfl) (by kernel_rfl) rfl
theorem zCt : AppT Tryz.prog 33 3 (Ty.cells (.int .i64)) 8:=appT_of (z:=.int .i64 0) (by kernel_rfl) (by kernel_rfl) J rfl
theorem f66_runs {p0:List Int}{q1:Int→Option Bool}{r:Bool}{g1:FuncId}{c1s:List AV}(h_q1:∀ (y1:Int) (r:Bool),q1 y1=some r→zBb Tryz.prog g1 ([.i y1]++c1s) [.bool r]) (k_q1:FnIn Tryz.prog g1 c1s) (hr:f66 p0 q1=some r) : zBb Tryz.prog 66 [.sl .i p0,.clo (.fn g1 [] c1s)] [.bool r]:=by
 refine zAW Tryz.func66 Tryz.ntmps66 J (rs:=[.tmp 4]) J J fun w0 X hX=>?_
 obtain ⟨x1,e2,hr⟩:=zA hr
 refine sq<|rg<|V va<|nl<|an<|sq<|rg<|V vm<|V vm<|?_
 refine V (zAV (f110_runs (g1:=g1) (c1s:=c1s) h_q1 k_q1 e2).x ent110 J J)<|V vge<|V va<|?_
 obtain rfl:=Option.some.inj hr
 exact nl<|an<|cr<|zAk (l':=[(4,.bool (decide (0≤x1)))]) (zAA hX [] 4 J J wS trivial) J ⟨rfl,trivial⟩
theorem f74_runs {p0:Int}{r:Bool}(hr:f74 p0=some r) : zBb Tryz.prog 74 [.i p0] [.bool r]:=by
 refine zAW Tryz.func74 Tryz.ntmps74 J (rs:=[.tmp 2]) J J fun w0 X hX=>?_
 refine sq<|rg<|V va<|nl<|an<|sq<|rg<|V vm<|V vls<|V va<|?_
 obtain rfl:=Option.some.inj hr
 exact nl<|an<|cr<|zAk (l':=[(2,.bool (decide (p0 < 0)))]) (zAA hX [] 4 J J wS trivial) J ⟨rfl,trivial⟩
theorem f111_runs {p0:ZS}{p1:Str}{r:Bool}(hr:f111 p0 p1=some r) : zBb Tryz.prog 111 [.agg [.str p0.1,.sl Y1 p0.2],.rp [.str p1]] [.bool r]:=by
 refine zAW Tryz.func111 Tryz.ntmps111 J (rs:=[.tmp 3]) J J fun w0 X hX=>?_
 refine sq<|rg<|O ob<|V va<|nl<|an<|sq<|rg<|V vfp<|V vlp<|V vlr<|V ves<|V va<|?_
 obtain rfl:=Option.some.inj hr
 exact nl<|an<|cr<|zAk (l':=[(3,.bool (decide (p0.1=p1)))]) (zAA hX [] 4 J J wS trivial) J ⟨rfl,trivial⟩
theorem f75_runs {p0:ZW}{p1:Str}{r:(Option (ZS))}(hr:f75 p0 p1=some r) : zBb Tryz.prog 75 [.rp (D76 p0),.str p1] [.pd Y2 r]:=by
 refine zAW Tryz.func75 Tryz.ntmps75 J (rs:=[.tmp 4]) J J fun w0 X hX=>?_
 obtain ⟨x1,e2,hr⟩:=zA hr
 refine sq<|rg<|O ob<|V va<|nl<|an<|sq<|rg<|V vm<|V vnr<|V vfr<|V vlr<|?_
 refine V (zA4 (us:=[]) (vs:=[.ptr 0 0]) J J)<|?_
 refine V (zAj (as':=[.sl Y2 p0.1,.fn 111 [] [.ptr 0 0]]) (f79_runs (q1:=(fun y1=>f111 y1 p1)) (g1:=111) (c1s:=[.rp [.str p1]]) (fun _ r h=>(have h2:=f111_runs h; h2)) ⟨ent111⟩ e2).x ent79 J ⟨cv0,(cv3 J),trivial⟩ J J)<|V va<|nl<|an<|sq<|sq<|rg<|V vm<|V vls<|nl<|an<|?_
 refine cnd (fun hc3 hr=>?_) (fun hc3 hr=>?_)
 ·refine sq<|rg<|V va<|?_
  obtain rfl:=Option.some.inj hr
  exact nl<|an<|cr<|zAC (zAk (l':=[(4,.pd Y2 none)]) (zAA hX [] 4 J J ⟨⟨_,rfl,cv4⟩,trivial⟩ trivial) J ⟨rfl,trivial⟩)
 obtain ⟨x4,e5,hr⟩:=zA hr
 refine sk<|an<|sq<|rg<|V vm<|V vnr<|V vfr<|V vlr<|V vm<|?_
 refine V (zAQ (t:=Y2) (e:=x4) (undX 22 J) (szX 47 J) J J e5)<|V va<|?_
 obtain rfl:=Option.some.inj hr
 exact nl<|an<|cr<|zAk (l':=[(4,.pd Y2 (some x4))]) (zAA hX [] 4 J J ⟨⟨_,rfl,(cv5 J J)⟩,trivial⟩ trivial) J ⟨rfl,trivial⟩
theorem f75o_runs {p0_0:ZW}{p1:Str}{r:(Option (ZS))}(hr:f75o p0_0 p1=some r) : Runs Tryz.prog 75 [.ptr 0 0,.str p1] [.tr E76 (some p0_0)] (fun q Hq=>q=[.pd Y2 r]∧Hq=[.tr E76 (some p0_0)]):=by
 refine zAW Tryz.func75 Tryz.ntmps75 J (rs:=[.tmp 4]) J J fun w0 X hX=>?_
 obtain ⟨x1,e2,hr⟩:=zA hr
 refine sq<|rg<|O ob<|V va<|nl<|an<|sq<|rg<|V vm<|V vnp<|V vfp<|?_
 refine zAG (zAd (i:=0) (W76 p0_0 2 3) [.map .i Y4 p0_0.2.1,.map .i Y5 p0_0.2.2.1] J J J J)<|V vlp<|?_
 refine V (zA4 (us:=[]) (vs:=[.ptr 1 0]) J J)<|?_
 refine V (zAj (as':=[.sl Y2 p0_0.1,.fn 111 [] [.ptr 1 0]]) (f79_runs (q1:=(fun y1=>f111 y1 p1)) (g1:=111) (c1s:=[.rp [.str p1]]) (fun _ r h=>(have h2:=f111_runs h; h2)) ⟨ent111⟩ e2).x ent79 J ⟨cv0,(cv3 J),trivial⟩ J J)<|V va<|nl<|an<|sq<|sq<|rg<|V vm<|V vls<|nl<|an<|?_
 refine cnd (fun hc3 hr=>?_) (fun hc3 hr=>?_)
 ·refine sq<|rg<|V va<|?_
  obtain rfl:=Option.some.inj hr
  exact nl<|an<|cr<|zAC (zAe (l':=[(4,.pd Y2 none)]) (Hs:=[(0,.tr E76 (some p0_0))]) (n:=1) (Wk.trans (pk (i:=0) (e:=F76) (js:=[2,3]) p0_0) (zAA hX [0] 4 J J ⟨⟨_,rfl,cv4⟩,trivial⟩ wO)) J J J ⟨rfl,trivial⟩)
 obtain ⟨x4,e5,hr⟩:=zA hr
 refine sk<|an<|sq<|rg<|V vm<|V vnp<|V vfp<|V vlp<|V vm<|?_
 refine V (zAQ (t:=Y2) (e:=x4) (undX 22 J) (szX 47 J) J J e5)<|V va<|?_
 obtain rfl:=Option.some.inj hr
 exact nl<|an<|cr<|zAe (l':=[(4,.pd Y2 (some x4))]) (Hs:=[(0,.tr E76 (some p0_0))]) (n:=1) (Wk.trans (pk (i:=0) (e:=F76) (js:=[2,3]) p0_0) (zAA hX [0] 4 J J ⟨⟨_,rfl,(cv5 J J)⟩,trivial⟩ wO)) J J J ⟨rfl,trivial⟩
theorem f97_runs {p0:Int}{r:Bool}(hr:f97 p0=some r) : zBb Tryz.prog 97 [.i p0] [.bool r]:=by
 refine zAW Tryz.func97 Tryz.ntmps97 J (rs:=[.tmp 2]) J J fun w0 X hX=>?_
 refine sq<|rg<|V va<|nl<|an<|sq<|rg<|V vm<|V vls<|V va<|?_
 obtain rfl:=Option.some.inj hr
 exact nl<|an<|cr<|zAk (l':=[(2,.bool (decide (p0 < 0)))]) (zAA hX [] 4 J J wS trivial) J ⟨rfl,trivial⟩
theorem f50_runs {p0:ZW}{p1:List Int}{r:Int}(hr:f50 p0 p1=some r) : zBb Tryz.prog 50 [.rp (D76 p0),.sl .i p1] [.i r]:=by
 refine zAW Tryz.func50 Tryz.ntmps50 J (rs:=[.tmp 4]) J J fun w0 X hX=>?_
 obtain ⟨x1,e2,hr⟩:=zA hr
 refine sq<|rg<|V va<|nl<|an<|sq<|sq<|rg<|V vm<|?_
 refine V (av_callN (as':=[.sl .i p1,.fn 97 [] []]) (f66_runs (q1:=(fun y1=>f97 y1)) (g1:=97) (c1s:=[]) (fun _ r h=>(have h2:=f97_runs h; h2)) ⟨ent97⟩ e2).x ent66 J ⟨cv0,(cv3 J),trivial⟩ J)<|nl<|an<|?_
 refine cnd (fun hc3 hr=>?_) (fun hc3 hr=>?_)
 ·refine sq<|rg<|V va<|?_
  obtain rfl:=Option.some.inj hr
  exact nl<|an<|cr<|zAC (zAk (l':=[(4,.i 7)]) (zAA hX [] 4 J J wS trivial) J ⟨rfl,trivial⟩)
 obtain ⟨o6,e7,hr⟩:=zA hr
 refine sk<|an<|sq<|sq<|rg<|V vm<|V vnl<|V vm<|nl<|an<|bl<|?_
 refine zAb (t:=1) J (fun hl=>?_)
 refine zAI (List.length p1 : Int) (f50_b0 p0 p1) (fun p=>match p with | (i4,())=>(⟨[(0,.rp (D76 p0)),(4,.i 0),(11,.sl .i p1),(12,.i (List.length p1 : Int)),(13,.i i4)],[],0⟩ : AS)) (fun o e st=>match o with | .inl ()=>e=.exit 0∧Wk X st ⟨[(4,.i 0)],[],0⟩ | .inr ()=>e=.ret∧Wk X st ⟨[(4,.i 8)],[],0⟩) (zAf hl) e7 (by exact zAA hX [] 4 J J wS trivial) ?_ ?_
 ·intro e st hx
  rcases o6 with _ | _
  ·obtain ⟨rfl,hw⟩:=hx
   refine bh<|an<|(zAY hw)<|sq<|rg<|V va<|?_
   obtain rfl:=Option.some.inj hr
   exact nl<|an<|cr<|zAk (l':=[(4,.i 0)]) (zAA hX [] 4 J J wS trivial) J ⟨rfl,trivial⟩
  obtain ⟨rfl,hw⟩:=hx
  obtain rfl:=Option.some.inj hr
  exact zAE (zAC (zAk (l':=[(4,.i 8)]) (Wk.trans hw (zAA hX [] 4 J J wS trivial)) J ⟨rfl,trivial⟩))
 rintro i4 _ o ho
 refine sq<|rg<|V vls<|nl<|an<|sq<|?_
 refine zAO (b:=decide (i4 < (List.length p1 : Int))) J (fun hc8=>?_) (fun hc8=>?_)
 ·obtain ⟨q,hr,rfl⟩:=zA7 hc8 ho
  obtain ⟨x9,e10,hr⟩:=zA hr
  refine sk<|an<|sq<|bl<|sq<|rg<|V (zAQ (t:=.i) (e:=x9) (undX 33 J) (szX 3 J) J J e10)<|V vlr<|V va<|nl<|an<|sq<|rg<|V vm<|V vnr<|V vfr<|V vlr<|V vm<|?_
  refine V (av_lookup2_dm (kx:=x9) (r:=.tup [.agg [.i ((((mget p0.2.1 x9).getD (0,0,([] : Str)))).1),.i (((((mget p0.2.1 x9).getD (0,0,([] : Str)))).2).1),.str (((((mget p0.2.1 x9).getD (0,0,([] : Str)))).2).2)],.bool ((mget p0.2.1 x9).isSome)]) (undX 73 J) kt3 zw54 J J J J)<|V vm<|V vx<|V vx<|O oa<|O os<|V va<|nl<|an<|sq<|rg<|V vm<|V vno<|nl<|an<|?_
  refine cnd (fun hc11 hr=>?_) (fun hc11 hr=>?_)
  ·refine sq<|rg<|V va<|?_
   obtain rfl:=Option.some.inj hr
   exact nl<|an<|cr<|zAE (zAC (⟨rfl,(zAA hX [] 4 J J wS trivial)⟩))
  refine sk<|bn<|an<|rg<|V vad<|V vm<|?_
  obtain rfl:=Option.some.inj hr
  exact zAJ ((zAA hX [] 4 J J wS trivial))
 obtain rfl:=zA8 hc8 ho
 exact zAH (zAF (⟨rfl,(zAA hX [] 4 J J wS trivial)⟩))
theorem f60_runs {p0:List Int}{r:List Int}(hr:f60 p0=some r) : Runs Tryz.prog 60 [.sl .i p0] [] (fun q Hq=>q=[.osl 0]∧Hq=[.sl 3 .i r]):=by
 refine zAW Tryz.func60 Tryz.ntmps60 J (rs:=[.tmp 2]) J J fun w0 X hX=>?_
 refine sq<|rg<|V va<|nl<|an<|sq<|sq<|rg<|V vm<|?_
 refine zAK (aop_eqnil (undX 33 J) J J (fun b2 hb3=>?_))
 refine nl<|an<|?_
 refine zAO (b:=b2) J (fun hc4=>?_) (fun hc4=>?_)
 ·obtain rfl:=hb3 hc4
  refine sq<|rg<|V va<|?_
  have hr : some ([] : List Int)=some _:=hr
  obtain rfl:=Option.some.inj hr
  exact nl<|an<|cr<|zAC (zAe (l':=[(2,.osl 0)]) (Hs:=[(0,.sl 3 .i ([] : List Int))]) (n:=1) (Wk.trans (zAt (t:=2) 3 .i J) (zAA hX [0] 4 J J wS wO)) J J J ⟨rfl,trivial⟩)
 refine sk<|an<|sq<|rg<|?_
 refine zAK (zBq (t:=.i) (qs:=[]) (ys:=([] : List Int)) bs33 J J J J J J J J ?_)
 refine V vm<|?_
 obtain ⟨h5,hr⟩:=zAN hr
 refine zAK (zAh J J zCt J J J h5 J ?_)
 refine V va<|?_
 obtain rfl:=Option.some.inj hr
 exact nl<|an<|cr<|zAe (l':=[(2,.osl 0)]) (Hs:=[(0,.sl 3 .i (([] : List Int)++p0))]) (n:=1) (zAA hX [1] 4 J J wS wO) J J J ⟨rfl,trivial⟩
theorem ent60 : Enters Tryz.prog 60:=enters_of Tryz.func60 (by kernel_rfl) rfl
theorem bt42 : zC4 Tryz.prog 42 (.agg #[.int .i64 0,.string ByteArray.empty,.slice none 0 0]) (fun i=>[(0,1),(1,1),(2,1)][i]?):=zBn (zeroX 42 J) (fs:=Tryz.prog.fieldsOf 42) (by kernel_rfl) (fun w=>by kernel_rfl)
theorem ent54 : Enters Tryz.prog 54:=enters_of Tryz.func54 (by kernel_rfl) rfl
theorem ent53 : Enters Tryz.prog 53:=enters_of Tryz.func53 (by kernel_rfl) rfl
theorem zw42 : ZeroW Tryz.prog 42 Y5:=zeroW_of (z:=.agg #[.i 0,.string ByteArray.empty,.slice none 0 0]) (fun w=>by kernel_rfl) J (fun h=>by cases h)
theorem ent65 : Enters Tryz.prog 65:=enters_of Tryz.func65 (by kernel_rfl) rfl
theorem ent109 : Enters Tryz.prog 109:=enters_of Tryz.func109 (by kernel_rfl) rfl
theorem ent75 : Enters Tryz.prog 75:=enters_of Tryz.func75 (by kernel_rfl) rfl
theorem ent105 : Enters Tryz.prog 105:=enters_of Tryz.func105 (by kernel_rfl) rfl
theorem ent74 : Enters Tryz.prog 74:=enters_of Tryz.func74 (by kernel_rfl) rfl
theorem ent50 : Enters Tryz.prog 50:=enters_of Tryz.func50 (by kernel_rfl) rfl
theorem ent62 : Enters Tryz.prog 62:=enters_of Tryz.func62 (by kernel_rfl) rfl
theorem ent63 : Enters Tryz.prog 63:=enters_of Tryz.func63 (by kernel_rfl) rfl
theorem f62_runs {p0_0:ZW}{p1:Str}{p2:List Int}{r:Int×(ZW)}(hr:f62 p0_0 p1 p2=some r) : Runs Tryz.prog 62 [.ptr 0 0,.str p1,.sl .i p2] [.tr E76 (some p0_0)] (fun q Hq=>q=[.i r.1]∧Hq=[.tr E76 (some r.2)]):=by
 refine zAW Tryz.func62 Tryz.ntmps62 J (rs:=[.tmp 6]) J J fun w0 X hX=>?_
 obtain ⟨x2,e3,hr⟩:=zA hr
 refine sq<|rg<|V va<|nl<|an<|sq<|rg<|V vm<|V vnp<|V vfp<|?_
 refine zAG (zAd (i:=0) (W76 p0_0 1 2) [.map .i Y4 p0_0.2.1,.map .i Y5 p0_0.2.2.1] J J J J)<|V vlp<|V va<|nl<|an<|sq<|?_
 refine zB0 10 [10,10,10,10,10,10,10,10,10,10] mixed [0,1,2,6,7] [(true,.ptr 0 0),(true,.ptr 0 0),(true,.ptr 0 2),(true,.map 2),(true,.i p0_0.2.2.2.2),(true,.i p0_0.2.2.2.2),(true,.str p1),(true,.sl .i p2),(true,.sl .i x2),(true,.agg [.i p0_0.2.2.2.2,.str p1,.sl .i x2])] [[],[0],[1],[2],[],[],[],[],[7],[5,6,8]] [3,4,9] J J J J J J J J ⟨oB wm,oB wnp,oB wfp,oB wlp,oB wm,oB wm,oB wm,oB wm,zAr J (fun hg=>zAD ⟨rfl,trivial⟩) (fun hg=>zBD (as':=[.sl .i p2]) (Hs:=[.sl 3 .i x2]) (f60_runs e3).x ent60 J ⟨cv0,trivial⟩ J J J),zAr J (fun hg=>zAD ⟨rfl,rfl,rfl,trivial⟩) (fun hg=>zAs (qs:=[(0,[.i p0_0.2.2.2.2]),(1,[.str p1]),(2,[.sl .i x2])]) (cs:=[.i p0_0.2.2.2.2,.str p1,.sl .i x2]) bt42 J J J),trivial⟩ (zAD ⟨rfl,rfl,rfl,trivial⟩) ?_
 refine zAK (zB (kx:=p0_0.2.2.2.2) (vx:=(p0_0.2.2.2.2,p1,x2)) (undX 74 J) kt3 (.inl J) J J J J J J J ?_)
 refine nl<|an<|sq<|rg<|V vm<|V vnp<|V vfp<|V vlp<|V vad<|V vnp<|V vfp<|O os<|nl<|an<|sq<|rg<|V vm<|V va<|?_
 obtain rfl:=Option.some.inj hr
 exact nl<|an<|cr<|zAe (l':=[(6,.i p0_0.2.2.2.2)]) (Hs:=[(0,.tr E76 (some (p0_0.1,p0_0.2.1,(mset p0_0.2.2.1 p0_0.2.2.2.2 (p0_0.2.2.2.2,p1,x2)),p0_0.2.2.2.1,(w64 (p0_0.2.2.2.2+1)))))]) (n:=1) (Wk.trans (pk (i:=0) (e:=F76) (js:=[1,2]) (p0_0.1,p0_0.2.1,(mset p0_0.2.2.1 p0_0.2.2.2.2 (p0_0.2.2.2.2,p1,x2)),p0_0.2.2.2.1,(w64 (p0_0.2.2.2.2+1)))) (zAA hX [0] 4 J J wS wO)) J J J ⟨rfl,trivial⟩
theorem f109_iter {σ R:Type}{r:σ ⊕ R}{m0:Mem}{L:Nat}{G:σ→Mem→Frag→Prop}{Gx:R→Mem→Frag→Prop}{q:σ→(Int×(Int×Str×List Int))→Option (σ ⊕ R)}{s0:σ}{p1:ZW}{p2:Str}{p3:Int}{p4:Int}(hr:f109 q s0 p1 p2 p3 p4=some r) (hY:∀ (s:σ) (x:Int×(Int×Str×List Int)) (s':σ),q s x=some (.inl s')→YieldsX Tryz.prog L [.i x.1,.agg [.i x.2.1,.str x.2.2.1,.sl .i x.2.2.2]] true (G s) (G s')) (hYx:∀ (s:σ) (x:Int×(Int×Str×List Int)) (r:R),q s x=some (.inr r)→YieldsX Tryz.prog L [.i x.1,.agg [.i x.2.1,.str x.2.2.1,.sl .i x.2.2.2]] false (G s) (Gx r)) : RunsX m0 Tryz.prog 109 [.yld L,.rp [.rp (D76 p1)],.rp [.str p2],.rp [.i p3],.rp [.i p4]] [.guest (G s0)] (fun rs H'=>rs=[]∧∃ Hc,H'=.guest (Sum.elim G Gx r)::Hc):=by
 refine runs_wX Tryz.func109 Tryz.ntmps109 J (rs:=[]) J J fun w0 X ex hm hX hxe=>?_
 obtain ⟨x1,e2,hr⟩:=zA hr
 refine sq<|rg<|V vlr<|V vnr<|V vfr<|V vlr<|?_
 refine zAK (zAP (σ:=[]) (as':=[.dm .i Y5 p1.2.2.1]) (f54_runs e2).x ent54 J ⟨cv0,trivial⟩ J J J ?_)
 obtain ⟨x3,e4,hr⟩:=zA hr
 refine zAK (zAP (σ:=[1]) (as':=[.fn 101 [] [.ptr 1 0]]) (f53_101_runs e4).x ent53 J ⟨cv0,trivial⟩ J J J ?_)
 obtain ⟨o11,e12,hr⟩:=zA hr
 refine V vnL<|V vm<|nl<|an<|bl<|?_
 refine zA5 (i:=2) J J (fun hl=>?_)
 refine zAI (List.length x3 : Int) (f109_b0 q p1 p2 p3 p4 x3) (fun p=>match p with | (i5,s7)=>(⟨[(0,.yld L),(1,.rp [.rp (D76 p1)]),(2,.rp [.str p2]),(3,.rp [.i p3]),(4,.rp [.i p4]),(14,.osl 1),(15,.i (List.length x3 : Int)),(16,.i i5)],[(0,.guest (G s7)),(1,.sl 3 .i x3)],2⟩ : AS)) (fun o e st=>match o with | .inl s7=>e=.exit 0∧Wk X st ⟨[],[(0,.guest (G s7))],1⟩ | .inr s10=>e=.ret∧Wk X st ⟨[],[(0,.guest (Gx s10))],1⟩) (zAf hl) e12 (by exact zAA hX [0,2] 4 J J wS wO) ?_ ?_
 ·intro e st hx
  rcases o11 with s7 | s10
  ·obtain ⟨rfl,hw⟩:=hx
   obtain rfl:=Option.some.inj hr
   exact zAl (zCz (ret_i (l':=[]) (Hs:=[(0,.guest (G s7))]) (n:=1) (Wk.trans hw (zAA hX [0] 4 J J trivial wO)) J J))
  obtain ⟨rfl,hw⟩:=hx
  obtain rfl:=Option.some.inj hr
  exact zAE (ret_i (l':=[]) (Hs:=[(0,.guest (Gx s10))]) (n:=1) (Wk.trans hw (zAA hX [0] 4 J J trivial wO)) J J)
 rintro i5 s7 o ho
 refine sq<|rg<|V vls<|nl<|an<|sq<|?_
 refine zAO (b:=decide (i5 < (List.length x3 : Int))) J (fun hc13=>?_) (fun hc13=>?_)
 ·obtain ⟨q,hr,rfl⟩:=zA7 hc13 ho
  obtain ⟨x14,e15,hr⟩:=zA hr
  refine sk<|an<|sq<|bl<|sq<|rg<|V (zAn (t:=.i) (undX 33 J) (szX 3 J) J J J e15)<|?_
  refine V (zAu (tsX 3 J) J J J (zCM e15) J)<|V va<|nl<|an<|sq<|rg<|V vlr<|V vnr<|V vfr<|V vlr<|V vm<|?_
  refine V (zBA (kx:=x14) (r:=.agg [.i ((((mget p1.2.2.1 x14).getD (0,([] : Str),[]))).1),.str (((((mget p1.2.2.1 x14).getD (0,([] : Str),[]))).2).1),.sl .i (((((mget p1.2.2.1 x14).getD (0,([] : Str),[]))).2).2)]) (undX 74 J) kt3 zw42 J J J J)<|O oa<|O os<|nl<|an<|sq<|?_
  obtain ⟨h16,hr⟩:=zAN hr
  refine awc_by ((decide ((((((mget p1.2.2.1 x14).getD (0,([] : Str),[]))).2).1)=p2))&&(decide (((ix (((((mget p1.2.2.1 x14).getD (0,([] : Str),[]))).2).2) p3).getD default)=p4))) (fun hc17=>?_) (fun hc17=>?_)
  ·have hr:=if_t hc17 hr
   refine zB0 17 [1,3,3,4,13,6,8,8,9,11,11,12,13,17,17,17,17] mixed [0,1,2,3,4,14,15,16,7,8] [(true,.ptr 2 1),(true,.str (((((mget p1.2.2.1 x14).getD (0,([] : Str),[]))).2).1)),(true,.str p2),(true,.bool (decide ((((((mget p1.2.2.1 x14).getD (0,([] : Str),[]))).2).1)=p2))),(true,.bool (decide ((((((mget p1.2.2.1 x14).getD (0,([] : Str),[]))).2).1)=p2))),(decide ((((((mget p1.2.2.1 x14).getD (0,([] : Str),[]))).2).1)=p2),.ptr 2 2),(decide ((((((mget p1.2.2.1 x14).getD (0,([] : Str),[]))).2).1)=p2),.sl .i (((((mget p1.2.2.1 x14).getD (0,([] : Str),[]))).2).2)),(decide ((((((mget p1.2.2.1 x14).getD (0,([] : Str),[]))).2).1)=p2),.i p3),(decide ((((((mget p1.2.2.1 x14).getD (0,([] : Str),[]))).2).1)=p2),.rp [.i ((ix (((((mget p1.2.2.1 x14).getD (0,([] : Str),[]))).2).2) p3).getD default)]),(decide ((((((mget p1.2.2.1 x14).getD (0,([] : Str),[]))).2).1)=p2),.i ((ix (((((mget p1.2.2.1 x14).getD (0,([] : Str),[]))).2).2) p3).getD default)),(decide ((((((mget p1.2.2.1 x14).getD (0,([] : Str),[]))).2).1)=p2),.i p4),(decide ((((((mget p1.2.2.1 x14).getD (0,([] : Str),[]))).2).1)=p2),.bool (decide (((ix (((((mget p1.2.2.1 x14).getD (0,([] : Str),[]))).2).2) p3).getD default)=p4))),(true,.bool ((decide ((((((mget p1.2.2.1 x14).getD (0,([] : Str),[]))).2).1)=p2))&&(decide (((ix (((((mget p1.2.2.1 x14).getD (0,([] : Str),[]))).2).2) p3).getD default)=p4)))),(true,.bool ((decide ((((((mget p1.2.2.1 x14).getD (0,([] : Str),[]))).2).1)=p2))&&(decide (((ix (((((mget p1.2.2.1 x14).getD (0,([] : Str),[]))).2).2) p3).getD default)=p4)))),((decide ((((((mget p1.2.2.1 x14).getD (0,([] : Str),[]))).2).1)=p2))&&(decide (((ix (((((mget p1.2.2.1 x14).getD (0,([] : Str),[]))).2).2) p3).getD default)=p4)),.yld L),((decide ((((((mget p1.2.2.1 x14).getD (0,([] : Str),[]))).2).1)=p2))&&(decide (((ix (((((mget p1.2.2.1 x14).getD (0,([] : Str),[]))).2).2) p3).getD default)=p4)),.i x14),((decide ((((((mget p1.2.2.1 x14).getD (0,([] : Str),[]))).2).1)=p2))&&(decide (((ix (((((mget p1.2.2.1 x14).getD (0,([] : Str),[]))).2).2) p3).getD default)=p4)),.agg [.i ((((mget p1.2.2.1 x14).getD (0,([] : Str),[]))).1),.str (((((mget p1.2.2.1 x14).getD (0,([] : Str),[]))).2).1),.sl .i (((((mget p1.2.2.1 x14).getD (0,([] : Str),[]))).2).2)])] [[],[0],[],[1,2],[3],[4],[5,4],[4],[6,7,4],[8,4],[4],[9,10,4],[11,4],[12],[13],[13],[13]] [13,14,15,16] J J J J J J J J ⟨oB wfp,oB wlp,oB wlr,oB wes,oB wm,oB wfp,oB wlp,oB wlr,zAr ⟨rfl,rfl,rfl,_,rfl,rfl⟩ (fun hg=>zAD ⟨hg,hg,rfl,trivial⟩) (fun hg=>zAQ (t:=.i) (e:=((ix (((((mget p1.2.2.1 x14).getD (0,([] : Str),[]))).2).2) p3).getD default)) (undX 33 J) (szX 3 J) J J (zAz h16 hg)),oB wlr,oB wlr,oB weq,zBe,oB wm,oB wm,oB wm,oB wlP,trivial⟩ (zAD ⟨rfl,hc17,hc17,hc17,trivial⟩) ?_
   obtain ⟨o18,e19,hr⟩:=zA hr
   rcases o18 with s20 | r21
   ·refine awl_opG J J J hc17<|aop_yield (i:=0) (b:=true) (as':=[.i x14,.agg [.i ((((mget p1.2.2.1 x14).getD (0,([] : Str),[]))).1),.str (((((mget p1.2.2.1 x14).getD (0,([] : Str),[]))).2).1),.sl .i (((((mget p1.2.2.1 x14).getD (0,([] : Str),[]))).2).2)]]) J J J hxe J J (hY _ (x14,((((mget p1.2.2.1 x14).getD (0,([] : Str),[]))).1,((((mget p1.2.2.1 x14).getD (0,([] : Str),[]))).2).1,((((mget p1.2.2.1 x14).getD (0,([] : Str),[]))).2).2)) _ e19)<|awl_opG J J J hc17<|zAX (av_not J)<|V (av_pickT J hc17 J)<|nl<|an<|?_
    refine zA3 rfl<|sk<|bn<|an<|rg<|V vad<|V vm<|?_
    obtain rfl:=Option.some.inj hr
    exact zAJ ((zAA hX [0,1] 4 J J wS wO))
   refine awl_opG J J J hc17<|aop_yield (i:=0) (b:=false) (as':=[.i x14,.agg [.i ((((mget p1.2.2.1 x14).getD (0,([] : Str),[]))).1),.str (((((mget p1.2.2.1 x14).getD (0,([] : Str),[]))).2).1),.sl .i (((((mget p1.2.2.1 x14).getD (0,([] : Str),[]))).2).2)]]) J J J hxe J J (hYx _ (x14,((((mget p1.2.2.1 x14).getD (0,([] : Str),[]))).1,((((mget p1.2.2.1 x14).getD (0,([] : Str),[]))).2).1,((((mget p1.2.2.1 x14).getD (0,([] : Str),[]))).2).2)) _ e19)<|awl_opG J J J hc17<|zAX (av_not J)<|V (av_pickT J hc17 J)<|?_
   obtain rfl:=Option.some.inj hr
   exact zAJ (zAZ (zCZ J (zAw (zAE (zAC (⟨rfl,(zAA hX [0] 4 J J trivial wO)⟩))))))
  have hr:=if_f hc17 hr
  refine zB0 17 [1,3,3,4,13,6,8,8,9,11,11,12,13,17,17,17,17] mixed [0,1,2,3,4,14,15,16,7,8] [(true,.ptr 2 1),(true,.str (((((mget p1.2.2.1 x14).getD (0,([] : Str),[]))).2).1)),(true,.str p2),(true,.bool (decide ((((((mget p1.2.2.1 x14).getD (0,([] : Str),[]))).2).1)=p2))),(true,.bool (decide ((((((mget p1.2.2.1 x14).getD (0,([] : Str),[]))).2).1)=p2))),(decide ((((((mget p1.2.2.1 x14).getD (0,([] : Str),[]))).2).1)=p2),.ptr 2 2),(decide ((((((mget p1.2.2.1 x14).getD (0,([] : Str),[]))).2).1)=p2),.sl .i (((((mget p1.2.2.1 x14).getD (0,([] : Str),[]))).2).2)),(decide ((((((mget p1.2.2.1 x14).getD (0,([] : Str),[]))).2).1)=p2),.i p3),(decide ((((((mget p1.2.2.1 x14).getD (0,([] : Str),[]))).2).1)=p2),.rp [.i ((ix (((((mget p1.2.2.1 x14).getD (0,([] : Str),[]))).2).2) p3).getD default)]),(decide ((((((mget p1.2.2.1 x14).getD (0,([] : Str),[]))).2).1)=p2),.i ((ix (((((mget p1.2.2.1 x14).getD (0,([] : Str),[]))).2).2) p3).getD default)),(decide ((((((mget p1.2.2.1 x14).getD (0,([] : Str),[]))).2).1)=p2),.i p4),(decide ((((((mget p1.2.2.1 x14).getD (0,([] : Str),[]))).2).1)=p2),.bool (decide (((ix (((((mget p1.2.2.1 x14).getD (0,([] : Str),[]))).2).2) p3).getD default)=p4))),(true,.bool ((decide ((((((mget p1.2.2.1 x14).getD (0,([] : Str),[]))).2).1)=p2))&&(decide (((ix (((((mget p1.2.2.1 x14).getD (0,([] : Str),[]))).2).2) p3).getD default)=p4)))),(true,.bool ((decide ((((((mget p1.2.2.1 x14).getD (0,([] : Str),[]))).2).1)=p2))&&(decide (((ix (((((mget p1.2.2.1 x14).getD (0,([] : Str),[]))).2).2) p3).getD default)=p4)))),((decide ((((((mget p1.2.2.1 x14).getD (0,([] : Str),[]))).2).1)=p2))&&(decide (((ix (((((mget p1.2.2.1 x14).getD (0,([] : Str),[]))).2).2) p3).getD default)=p4)),.yld L),((decide ((((((mget p1.2.2.1 x14).getD (0,([] : Str),[]))).2).1)=p2))&&(decide (((ix (((((mget p1.2.2.1 x14).getD (0,([] : Str),[]))).2).2) p3).getD default)=p4)),.i x14),((decide ((((((mget p1.2.2.1 x14).getD (0,([] : Str),[]))).2).1)=p2))&&(decide (((ix (((((mget p1.2.2.1 x14).getD (0,([] : Str),[]))).2).2) p3).getD default)=p4)),.agg [.i ((((mget p1.2.2.1 x14).getD (0,([] : Str),[]))).1),.str (((((mget p1.2.2.1 x14).getD (0,([] : Str),[]))).2).1),.sl .i (((((mget p1.2.2.1 x14).getD (0,([] : Str),[]))).2).2)])] [[],[0],[],[1,2],[3],[4],[5,4],[4],[6,7,4],[8,4],[4],[9,10,4],[11,4],[12],[13],[13],[13]] [13] J J J J J J J J ⟨oB wfp,oB wlp,oB wlr,oB wes,oB wm,oB wfp,oB wlp,oB wlr,zAr ⟨rfl,rfl,rfl,_,rfl,rfl⟩ (fun hg=>zAD ⟨hg,hg,rfl,trivial⟩) (fun hg=>zAQ (t:=.i) (e:=((ix (((((mget p1.2.2.1 x14).getD (0,([] : Str),[]))).2).2) p3).getD default)) (undX 33 J) (szX 3 J) J J (zAz h16 hg)),oB wlr,oB wlr,oB weq,zBe,oB wm,oB wm,oB wm,oB wlP,trivial⟩ (zAD ⟨rfl,trivial⟩) ?_
  refine awl_skipG J J J hc17 J rfl<|awl_skipG J J J hc17 J rfl<|V (av_pickF J hc17 J)<|nl<|an<|?_
  refine zA3 rfl<|sk<|bn<|an<|rg<|V vad<|V vm<|?_
  obtain rfl:=Option.some.inj hr
  exact zAJ ((zAA hX [0,1] 4 J J wS wO))
 obtain rfl:=zA8 hc13 ho
 exact zAH (zAF (⟨rfl,(zAA hX [0] 4 J J trivial wO)⟩))
theorem f65_runs {p0:ZW}{p1:Int}{p2:Str}{p3:Int}{r:Unit}(hr:f65 p0 p1 p2 p3=some r) : zBb Tryz.prog 65 [.rp (D76 p0),.i p1,.str p2,.i p3] [.fn 109 [] [.rp [.rp (D76 p0)],.rp [.str p2],.rp [.i p3],.rp [.i p1]]]:=by
 refine zAW Tryz.func65 Tryz.ntmps65 J (rs:=[.tmp 8]) J J fun w0 X hX=>?_
 refine sq<|rg<|O ob<|O ob<|O ob<|O ob<|V va<|nl<|an<|sq<|rg<|?_
 refine V (zA4 (us:=[]) (vs:=[.ptr 0 0,.ptr 2 0,.ptr 3 0,.ptr 1 0]) J J)<|V va<|?_
 obtain rfl:=Option.some.inj hr
 exact nl<|an<|cr<|zAk (l':=[(8,.fn 109 [] [.rp [.rp (D76 p0)],.rp [.str p2],.rp [.i p3],.rp [.i p1]])]) (zAA hX [] 4 J J wS trivial) J ⟨rfl,trivial⟩
theorem f105_runs {p0:ZW}{p1:Int}{p2:Str}{p3:Int}{r:Int}(hr:f105 p0 p1 p2 p3=some r) : zBb Tryz.prog 105 [.rp (D76 p0),.i p1,.str p2,.i p3] [.i r]:=by
 refine runs_wM Tryz.func105 Tryz.ntmps105 J (rs:=[.tmp 8]) J J J fun w0 X hX hxe=>?_
 obtain ⟨x1,e2,hr⟩:=zA hr
 obtain ⟨o9,e10,hr⟩:=zA hr
 refine sq<|rg<|V va<|nl<|an<|sq<|rg<|O oa<|O os<|nl<|an<|sq<|sq<|rg<|V vm<|V vm<|V vm<|V vm<|?_
 refine V (zAV (f65_runs e2).x ent65 J J)<|nl<|an<|bl<|?_
 refine zAY (st':=⟨[(8,.i 0),(9,.ptr 0 0),(14,.fn 109 [] [.rp [.rp (D76 p0)],.rp [.str p2],.rp [.i p3],.rp [.i p1]])],[(0,.var 3 [.i 0])],1⟩) (zAA hX [0] 4 rfl rfl wS wO) (awc_rangeX (σ:=Int) (α:=Int×(Int×Str×List Int)) (R:=Unit) [.rp [.rp (D76 p0)],.rp [.str p2],.rp [.i p3],.rp [.i p1]] [] 1 (f105_b0) (fun x=>[.i x.1,.agg [.i x.2.1,.str x.2.2.1,.sl .i x.2.2.2]]) [(8,.i 0),(9,.ptr 0 0),(14,.fn 109 [] [.rp [.rp (D76 p0)],.rp [.str p2],.rp [.i p3],.rp [.i p1]])] (fun p=>match p with | s5=>([(0,.var 3 [.i s5])] : AH)) (fun _=>[]) (fun _=>.ret) 1 (fun _=>0) [] rfl rfl hxe rfl ent109 rfl rfl (fun _=>rfl) rfl (by rw [hX]; rfl) rfl rfl rfl rfl (fun L G Gx hY hYx=>f109_iter (q:=f105_b0) e10 hY hYx) ?_ (fun r=>rfl) ?_ ?_)
 ·intro w0 L X ex hm hX hxe
  rintro s5 ⟨y11,y12⟩ s' hr
  refine sk<|ranged<|?_
  intro w0 X ex hm hX hxe
  refine bl<|rg<|V vlp<|V vad<|O os<|?_
  obtain rfl:=Option.some.inj hr
  exact zAJ (zAS (⟨rfl,(zAA hX [0] 4 J J trivial wO)⟩))
 ·rintro s5 rfl
  refine bn<|an<|sq<|rg<|V vlp<|V va<|?_
  obtain rfl:=Option.some.inj hr
  exact nl<|an<|cr<|zAk (l':=[(8,.i s5)]) (zAA hX [] 4 J J wS trivial) J ⟨rfl,trivial⟩
 rintro r rfl
 exact absurd hr (by simp)
theorem f63_runs {p0:ZW}{p1:Int×Str×List Int}{r:Bool}(hr:f63 p0 p1=some r) : zBb Tryz.prog 63 [.rp (D76 p0),.agg [.i p1.1,.str p1.2.1,.sl .i p1.2.2]] [.bool r]:=by
 refine zAW Tryz.func63 Tryz.ntmps63 J (rs:=[.tmp 4]) J J fun w0 X hX=>?_
 obtain ⟨x1,e2,hr⟩:=zA hr
 obtain ⟨x3,e4,hr⟩:=zA hr
 obtain ⟨o7,e8,hr⟩:=zA hr
 refine sq<|rg<|O ob<|V va<|nl<|an<|sq<|sq<|rg<|V vm<|V vfp<|V vlp<|?_
 refine V (zAV (f75_runs e2).x ent75 J J)<|?_
 refine V (zCJ (t:=Y2) (y:=x3) J e4)<|V vfr<|V vlr<|V vnl<|V vm<|nl<|an<|bl<|?_
 refine zAb (t:=13) J (fun hl=>?_)
 refine zAI (List.length x3.2 : Int) (f63_b0 p0 p1 x3) (fun p=>match p with | (i5,())=>(⟨[(0,.rp (D76 p0)),(3,.ptr 0 0),(4,.bool false),(13,.sl Y1 x3.2),(14,.i (List.length x3.2 : Int)),(15,.i i5)],[(0,.var 42 [.i p1.1,.str p1.2.1,.sl .i p1.2.2])],1⟩ : AS)) (fun o e st=>match o with | .inl ()=>e=.exit 0∧Wk X st ⟨[(4,.bool false)],[],0⟩ | .inr ()=>e=.ret∧Wk X st ⟨[(4,.bool true)],[],0⟩) (zAf hl) e8 (by exact zAA hX [0] 4 J J wS wO) ?_ ?_
 ·intro e st hx
  rcases o7 with _ | _
  ·obtain ⟨rfl,hw⟩:=hx
   refine bh<|an<|(zAY hw)<|sq<|rg<|V va<|?_
   obtain rfl:=Option.some.inj hr
   exact nl<|an<|cr<|zAk (l':=[(4,.bool false)]) (zAA hX [] 4 J J wS trivial) J ⟨rfl,trivial⟩
  obtain ⟨rfl,hw⟩:=hx
  obtain rfl:=Option.some.inj hr
  exact zAE (zAC (zAk (l':=[(4,.bool true)]) (Wk.trans hw (zAA hX [] 4 J J wS trivial)) J ⟨rfl,trivial⟩))
 rintro i5 _ o ho
 refine sq<|rg<|V vls<|nl<|an<|sq<|?_
 refine zAO (b:=decide (i5 < (List.length x3.2 : Int))) J (fun hc9=>?_) (fun hc9=>?_)
 ·obtain ⟨q,hr,rfl⟩:=zA7 hc9 ho
  obtain ⟨x10,e11,hr⟩:=zA hr
  refine sk<|an<|sq<|bl<|sq<|rg<|V vm<|?_
  refine V (zAQ (t:=Y1) (e:=x10) (undX 45 J) (szX 49 J) J J e11)<|V vlR<|O oa<|V va<|O os<|nl<|an<|sq<|?_
  obtain ⟨h12,hr⟩:=zAN hr
  obtain ⟨h13,hr⟩:=zAN hr
  refine zBE mixed [0,3,4,13,14,15,6,5] [(true,.ptr 1 2),(true,.i x10.2.2.1),(true,.bool (decide (0 < x10.2.2.1))),(true,.bool (decide (0 < x10.2.2.1))),(decide (0 < x10.2.2.1),.rp (D76 p0)),(decide (0 < x10.2.2.1),.ptr 0 2),(decide (0 < x10.2.2.1),.sl .i p1.2.2),(decide (0 < x10.2.2.1),.i i5),(decide (0 < x10.2.2.1),.rp [.i ((ix p1.2.2 i5).getD default)]),(decide (0 < x10.2.2.1),.i ((ix p1.2.2 i5).getD default)),(decide (0 < x10.2.2.1),.ptr 0 1),(decide (0 < x10.2.2.1),.str p1.2.1),(decide (0 < x10.2.2.1),.i i5),(decide (0 < x10.2.2.1),.i ((f105 p0 ((ix p1.2.2 i5).getD default) p1.2.1 i5).getD default)),(decide (0 < x10.2.2.1),.ptr 1 2),(decide (0 < x10.2.2.1),.i x10.2.2.1),(decide (0 < x10.2.2.1),.bool (decide (x10.2.2.1 < ((f105 p0 ((ix p1.2.2 i5).getD default) p1.2.1 i5).getD default)))),(true,.bool ((decide (0 < x10.2.2.1))&&(decide (x10.2.2.1 < ((f105 p0 ((ix p1.2.2 i5).getD default) p1.2.1 i5).getD default)))))] [[],[0],[1],[2],[3],[3],[5,3],[3],[6,7,3],[8,3],[3],[10,3],[3],[4,9,11,12,3],[3],[14,3],[13,15,3],[16,3]] [17] J J J J J ⟨oB wfp,oB wlp,oB wgt,oB wm,oB wm,oB wfp,oB wlp,oB wm,zAr ⟨rfl,rfl,rfl,_,rfl,rfl⟩ (fun hg=>zAD ⟨hg,hg,rfl,trivial⟩) (fun hg=>zAQ (t:=.i) (e:=((ix p1.2.2 i5).getD default)) (undX 33 J) (szX 3 J) J J (zAz h12 hg)),oB wlr,oB wfp,oB wlp,oB wm,zAr ⟨rfl,rfl,rfl,_,rfl,rfl⟩ (fun hg=>zAD ⟨hg,hg,hg,hg,rfl,trivial⟩) (fun hg=>zAV (f105_runs (zAz h13 hg)).x ent105 J J),oB wfp,oB wlp,oB wgt,zBe,trivial⟩ (zAD ⟨rfl,trivial⟩) ?_
  refine an<|?_
  refine cnd (fun hc14 hr=>?_) (fun hc14 hr=>?_)
  ·refine sq<|rg<|V va<|?_
   obtain rfl:=Option.some.inj hr
   exact nl<|an<|cr<|zAE (zAC (⟨rfl,(zAA hX [] 4 J J wS trivial)⟩))
  refine sk<|bn<|an<|rg<|V vad<|V vm<|?_
  obtain rfl:=Option.some.inj hr
  exact zAJ ((zAA hX [0] 4 J J wS wO))
 obtain rfl:=zA8 hc9 ho
 exact zAH (zAF (⟨rfl,(zAA hX [] 4 J J wS trivial)⟩))
theorem f24_runs {p0_0:ZW}{p1:Str}{p2:List Int}{r:Int×Int×(ZW)}(hr:f24 p0_0 p1 p2=some r) : Runs Tryz.prog 24 [.ptr 0 0,.str p1,.sl .i p2] [.tr E76 (some p0_0)] (fun q Hq=>q=[.i r.1,.i r.2.1]∧Hq=[.tr E76 (some r.2.2)]):=by
 refine zAW Tryz.func24 Tryz.ntmps24 J (rs:=[.tmp 6,.tmp 7]) J J fun w0 X hX=>?_
 refine sq<|rg<|V va<|V va<|nl<|an<|sq<|sq<|?_
 obtain ⟨h2,hr⟩:=zAN hr
 refine zAa [0,1,2,6,7] [(true,.ptr 0 0),(true,.bool false),(true,.bool false),(!false,.str p1),(!false,.bool ((f73 p1).getD default)),(!false,.bool (!((f73 p1).getD default))),(true,.bool (false||(!((f73 p1).getD default))))] [[],[0],[1],[2],[3,2],[4,2],[5,2]] [6] J J J J J ⟨oB wm,zAr J (fun hg=>zAD ⟨rfl,trivial⟩) (fun hg=>av_ptrnil (undX 26 J) J J),oB wm,oB wm,zAr ⟨rfl,rfl,rfl,_,rfl,rfl⟩ (fun hg=>zAD ⟨hg,rfl,trivial⟩) (fun hg=>zAV (f73_runs (zAz h2 hg)).x ent73 J J),oB wno,zBr,trivial⟩ (zAD ⟨rfl,trivial⟩) ?_
 refine an<|?_
 refine cnd (fun hc3 hr=>?_) (fun hc3 hr=>?_)
 ·refine sq<|rg<|V va<|V va<|?_
  obtain rfl:=Option.some.inj hr
  exact nl<|an<|cr<|zAC (zAe (l':=[(6,.i 0),(7,.i 1)]) (Hs:=[(0,.tr E76 (some p0_0))]) (n:=1) (zAA hX [0] 4 J J wS wO) J J J ⟨rfl,rfl,trivial⟩)
 obtain ⟨x4,e5,hr⟩:=zA hr
 refine sk<|an<|sq<|sq<|rg<|V vm<|?_
 refine V (av_callN (as':=[.sl .i p2,.fn 74 [] []]) (f66_runs (q1:=(fun y1=>f74 y1)) (g1:=74) (c1s:=[]) (fun _ r h=>(have h2:=f74_runs h; h2)) ⟨ent74⟩ e5).x ent66 J ⟨cv0,(cv3 J),trivial⟩ J)<|nl<|an<|?_
 refine cnd (fun hc6 hr=>?_) (fun hc6 hr=>?_)
 ·refine sq<|rg<|V va<|V va<|?_
  obtain rfl:=Option.some.inj hr
  exact nl<|an<|cr<|zAC (zAe (l':=[(6,.i 0),(7,.i 7)]) (Hs:=[(0,.tr E76 (some p0_0))]) (n:=1) (zAA hX [0] 4 J J wS wO) J J J ⟨rfl,rfl,trivial⟩)
 obtain ⟨x7,e8,hr⟩:=zA hr
 refine sk<|an<|sq<|rg<|V vm<|V vm<|?_
 refine zAK (zAP (σ:=[0]) (as':=[.ptr 0 0,.str p1]) (f75o_runs e8).x ent75 J ⟨cv0,cv0,trivial⟩ J J J ?_)
 refine V va<|nl<|an<|sq<|sq<|rg<|V vm<|?_
 refine V (av_eqnil_pd (undX 117 J) J J)<|nl<|an<|?_
 refine cnd (fun hc9 hr=>?_) (fun hc9 hr=>?_)
 ·refine sq<|rg<|V va<|V va<|?_
  obtain rfl:=Option.some.inj hr
  exact nl<|an<|cr<|zAC (zAe (l':=[(6,.i 0),(7,.i 5)]) (Hs:=[(0,.tr E76 (some p0_0))]) (n:=1) (zAA hX [0] 4 J J wS wO) J J J ⟨rfl,rfl,trivial⟩)
 obtain ⟨x10,e11,hr⟩:=zA hr
 refine sk<|an<|sq<|sq<|rg<|V vm<|V vm<|?_
 refine zAG (zAd (i:=0) (W76 p0_0 1 2) [.map .i Y4 p0_0.2.1,.map .i Y5 p0_0.2.2.1] J J J J)<|V (zAj (as':=[.ptr 0 0,.sl .i p2]) (f50_runs e11).x ent50 J ⟨cv0,cv0,trivial⟩ J J)<|V va<|nl<|an<|sq<|rg<|V vm<|V vne<|nl<|an<|?_
 refine cnd (fun hc12 hr=>?_) (fun hc12 hr=>?_)
 ·refine sq<|rg<|V vm<|V va<|V va<|?_
  obtain rfl:=Option.some.inj hr
  exact nl<|an<|cr<|zAC (zAe (l':=[(6,.i 0),(7,.i x10)]) (Hs:=[(0,.tr E76 (some p0_0))]) (n:=1) (Wk.trans (pk (i:=0) (e:=F76) (js:=[1,2]) p0_0) (zAA hX [0] 4 J J wS wO)) J J J ⟨rfl,rfl,trivial⟩)
 obtain ⟨x13,e14,hr⟩:=zA hr
 refine sk<|an<|sq<|sq<|rg<|V vm<|V vnl<|V vm<|?_
 refine V (zCJ (t:=Y2) (y:=x13) J e14)<|V vfr<|V vlr<|V vnl<|V vne<|nl<|an<|?_
 refine cnd (fun hc15 hr=>?_) (fun hc15 hr=>?_)
 ·refine sq<|rg<|V va<|V va<|?_
  obtain rfl:=Option.some.inj hr
  exact nl<|an<|cr<|zAC (zAe (l':=[(6,.i 0),(7,.i 11)]) (Hs:=[(0,.tr E76 (some p0_0))]) (n:=1) (Wk.trans (pk (i:=0) (e:=F76) (js:=[1,2]) p0_0) (zAA hX [0] 4 J J wS wO)) J J J ⟨rfl,rfl,trivial⟩)
 obtain ⟨x16,e17,hr⟩:=zA hr
 refine sk<|an<|sq<|rg<|V vm<|V vm<|V vm<|?_
 refine zAG (pk (i:=0) (e:=F76) (js:=[1,2]) p0_0)<|?_
 refine zAK (zAP (σ:=[0]) (as':=[.ptr 0 0,.str p1,.sl .i p2]) (f62_runs e17).x ent62 J ⟨cv0,cv0,cv0,trivial⟩ J J J ?_)
 obtain ⟨o19,e20,hr⟩:=zA hr
 refine V va<|nl<|an<|sq<|rg<|V va<|nl<|an<|?_
 refine zAy (S:=Int) (R:=Unit) (fun s=>match s with | s18=>(⟨[(0,.ptr 0 0),(6,.i 0),(7,.i 0),(10,.i x16.1),(11,.i s18)],[(0,.tr E76 (some x16.2))],1⟩ : AS)) (fun _ _ _=>False) e20 (fun hr=>?_) ?_ ?_
 ·obtain ⟨x21,e22,hr⟩:=zA hr
  refine bl<|sq<|rg<|V vm<|V vm<|V vnp<|V vfp<|?_
  refine zAG (zAd (i:=0) [.sl Y2 x16.2.1,.map 3,.map 4,.i x16.2.2.2.2.1,.i x16.2.2.2.2.2] [.map .i Y4 x16.2.2.1,.map .i Y5 x16.2.2.2.1] J J J J)<|V vlp<|V vm<|?_
  refine V (zBG (kx:=x16.1) (r:=.agg [.i ((((mget x16.2.2.2.1 x16.1).getD (0,([] : Str),[]))).1),.str (((((mget x16.2.2.2.1 x16.1).getD (0,([] : Str),[]))).2).1),.sl .i (((((mget x16.2.2.2.1 x16.1).getD (0,([] : Str),[]))).2).2)]) (undX 74 J) kt3 zw42 J J J J J)<|?_
  refine V (zAj (as':=[.ptr 0 0,.agg [.i ((((mget x16.2.2.2.1 x16.1).getD (0,([] : Str),[]))).1),.str (((((mget x16.2.2.2.1 x16.1).getD (0,([] : Str),[]))).2).1),.sl .i (((((mget x16.2.2.2.1 x16.1).getD (0,([] : Str),[]))).2).2)]]) (f63_runs e22).x ent63 J ⟨cv0,cv0,trivial⟩ J J)<|V va<|nl<|an<|?_
  refine cnd (fun hc23 hr=>?_) (fun hc23 hr=>?_)
  ·refine rg<|V va<|?_
   obtain rfl:=Option.some.inj hr
   exact zAJ (zAS ((Wk.trans (pk (i:=0) (e:=F76) (js:=[3,4]) x16.2) (zAA hX [0] 4 J J wS wO))))
  refine sq<|rg<|V vm<|V vnp<|V vfp<|V vlp<|?_
  refine V (zCa (tk:=.i) (tv:=Y5) J J (undX 74 J) J J)<|V vgt<|V va<|nl<|an<|?_
  refine cnd (fun hc24 hr=>?_) (fun hc24 hr=>?_)
  ·refine rg<|V va<|?_
   obtain rfl:=Option.some.inj hr
   exact zAJ (zAS ((Wk.trans (pk (i:=0) (e:=F76) (js:=[3,4]) x16.2) (zAA hX [0] 4 J J wS wO))))
  obtain rfl:=Option.some.inj hr
  exact zAv (zAS ((Wk.trans (pk (i:=0) (e:=F76) (js:=[3,4]) x16.2) (zAA hX [0] 4 J J wS wO))))
 ·rintro s18 rfl
  refine sq<|sq<|rg<|V vm<|V vne<|nl<|an<|?_
  refine cnd (fun hc25 hr=>?_) (fun hc25 hr=>?_)
  ·refine sq<|rg<|V vm<|V vnp<|V vfp<|?_
   refine zAG (zAd (i:=0) [.sl Y2 x16.2.1,.map 1,.map 2,.i x16.2.2.2.2.1,.i x16.2.2.2.2.2] [.map .i Y4 x16.2.2.1,.map .i Y5 x16.2.2.2.1] J J J J)<|V vlp<|V vm<|?_
   refine zAK (aop_mapDel (kx:=x16.1) J J J (undX 74 J) kt3 J J J J ?_)
   refine nl<|an<|sq<|rg<|V vm<|V vnp<|V vfp<|V vlp<|V vsu<|V vnp<|V vfp<|O os<|nl<|an<|sq<|rg<|V vm<|V va<|V va<|?_
   obtain rfl:=Option.some.inj hr
   exact nl<|an<|cr<|zAC (zAe (l':=[(6,.i 0),(7,.i s18)]) (Hs:=[(0,.tr E76 (some (x16.2.1,x16.2.2.1,(mdel x16.2.2.2.1 x16.1),x16.2.2.2.2.1,(w64 (x16.2.2.2.2.2 - 1)))))]) (n:=1) (Wk.trans (pk (i:=0) (e:=F76) (js:=[1,2]) (x16.2.1,x16.2.2.1,(mdel x16.2.2.2.1 x16.1),x16.2.2.2.2.1,(w64 (x16.2.2.2.2.2 - 1)))) (zAA hX [0] 4 J J wS wO)) J J J ⟨rfl,rfl,trivial⟩)
  refine sk<|an<|sq<|rg<|V vm<|V va<|V va<|?_
  obtain rfl:=Option.some.inj hr
  exact nl<|an<|cr<|zAe (l':=[(6,.i x16.1),(7,.i 0)]) (Hs:=[(0,.tr E76 (some x16.2))]) (n:=1) (zAA hX [0] 4 J J wS wO) J J J ⟨rfl,rfl,trivial⟩
 exact fun r h e st hne hx=>hx.elim
theorem f58_runs {p0:ZW}{p1:Int}{p2:Int}{r:Int}(hr:f58 p0 p1 p2=some r) : zBb Tryz.prog 58 [.rp (D76 p0),.i p1,.i p2] [.i r]:=by
 refine zAW Tryz.func58 Tryz.ntmps58 J (rs:=[.tmp 6]) J J fun w0 X hX=>?_
 obtain ⟨x1,e2,hr⟩:=zA hr
 refine sq<|rg<|V va<|nl<|an<|sq<|bl<|sq<|rg<|V vm<|?_
 refine V (zCj (undX 26 J) J J)<|V va<|nl<|an<|?_
 refine zA3 rfl<|sq<|rg<|V vm<|?_
 refine V (zAV (f72_runs e2).x ent72 J J)<|V vno<|V va<|nl<|an<|?_
 refine cnd (fun hc3 hr=>?_) (fun hc3 hr=>?_)
 ·refine sq<|rg<|V va<|?_
  obtain rfl:=Option.some.inj hr
  exact nl<|an<|cr<|zAE (zAC (zAk (l':=[(6,.i 7)]) (zAA hX [] 4 J J wS trivial) J ⟨rfl,trivial⟩))
 obtain ⟨x4,e5,hr⟩:=zA hr
 refine sk<|bn<|an<|sq<|rg<|V vm<|V vm<|?_
 refine V (zAM (t:=.i) (qs:=[(0,[.i p1])]) (ys:=[p1]) bs33 J J J J J J J J)<|?_
 refine V (zAV (f50_runs e5).x ent50 J J)<|V va<|?_
 obtain rfl:=Option.some.inj hr
 exact nl<|an<|cr<|zAk (l':=[(6,.i x4)]) (zAA hX [] 4 J J wS trivial) J ⟨rfl,trivial⟩
theorem f94_runs {p0:ZO}{r:Int}(hr:f94 p0=some r) : zBb Tryz.prog 94 [.agg [.str p0.1,.i p0.2.1,.i p0.2.2.1,.i p0.2.2.2.1,.i p0.2.2.2.2.1,.i p0.2.2.2.2.2]] [.i r]:=by
 refine zAW Tryz.func94 Tryz.ntmps94 J (rs:=[.tmp 2]) J J fun w0 X hX=>?_
 refine sq<|rg<|O ob<|V va<|nl<|an<|sq<|rg<|V vfp<|V vlp<|V va<|?_
 obtain rfl:=Option.some.inj hr
 exact nl<|an<|cr<|zAk (l':=[(2,.i p0.2.2.2.1)]) (zAA hX [] 4 J J wS trivial) J ⟨rfl,trivial⟩
end Go.Ab
