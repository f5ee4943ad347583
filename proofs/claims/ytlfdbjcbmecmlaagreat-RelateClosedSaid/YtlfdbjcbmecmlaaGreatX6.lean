/- Lemmas for a law of the seat: what functions of the program do, each stated as a contract of its own (X6). -/
import Derived.Test.YtlfdbjcbmecmlaaGreatX5
set_option linter.unusedVariables false
set_option maxRecDepth 100000
namespace Go.Ab
structure SS (ss:List SortT) : Prop where
 uniq : ∀ s∈ss,∀ t∈ss,s.1=t.1→s=t
 len : ∀ s∈ss,2≤s.2.length∧s.2.length≤3
 role : ∀ s∈ss,∀ r∈s.2,roleB r=true
 cnt : ss.length≤20
 short : ∀ s∈ss,shortS s
theorem ss_of {p:List SortT}(h:∀ s∈p,shortS s) (ho:zB8 p=true) : SS p:=by
 obtain ⟨h1,h2⟩:=zCB.1 ho
 have h3 : ∀ s∈p,sortB s=true:=fun s hs=>by
  obtain ⟨i,hi,rfl⟩:=zB4 default hs
  exact (Bool.and_eq_true _ _ ▸ h1 i hi).1
 have hne : ∀ i j,i < j→j < p.length→(p.getD i default).1≠(p.getD j default).1:=fun i j hij hj he=>by
  have:=h1 j hj
  rw [Bool.and_eq_true,Bool.not_eq_true'] at this
  have h4:=this.2
  rw [earlyS,List.any_eq_false] at h4
  refine h4 (p.getD i default) ?_ (by simp only [decide_eq_true_eq]; exact he)
  rw [← getD_take (n:=j) hij]
  exact zBV (by rw [List.length_take]; omega)
 refine ⟨fun s hs t ht he=>?_,fun s hs=>?_,fun s hs r hr=>?_,h2,h⟩
 ·obtain ⟨i,hi,rfl⟩:=zB4 default hs
  obtain ⟨j,hj,rfl⟩:=zB4 default ht
  rcases Nat.lt_trichotomy i j with h5 | h5 | h5
  ·exact absurd he (hne i j h5 hj)
  ·rw [h5]
  ·exact absurd he.symm (hne j i h5 hi)
 ·have:=h3 s hs
  simp only [sortB,Bool.and_eq_true,decide_eq_true_eq] at this
  exact ⟨this.1.2,this.2⟩
 ·have:=h3 s hs
  simp only [sortB,Bool.and_eq_true,zB1] at this
  obtain ⟨i,hi,rfl⟩:=zB4 default hr
  exact (this.1.1.1 i hi).1
def RelOk (ss:List SortT) (r:Str×List Int) : Prop:=∃ s∈ss,s.1=r.1∧s.2.length=r.2.length
def keys {α:Type}(x:List (Int×α)) : List Int:=x.map (·.1)
structure IW (ss:List SortT) (B:Int) (w:PW) : Prop where
 srt : w.1=ss
 on : (keys w.2.1).Nodup
 ok : ∀ k∈keys w.2.1,1≤k∧k < w.2.2.2.1
 ol : w.2.1.length≤500
 rn : (keys w.2.2.1).Nodup
 rk : ∀ e∈w.2.2.1,1≤e.1∧e.1 < w.2.2.2.2∧e.2.1=e.1∧RelOk ss e.2.2∧∀ o∈e.2.2.2,o∈keys w.2.1
 no : 1≤w.2.2.2.1∧w.2.2.2.1≤B
 nr : 1≤w.2.2.2.2∧w.2.2.2.2≤B
 ot : ∀ e∈w.2.1,e.2.1=e.1∧e.2.2.2.length≤1000
theorem IW.mono {ss:List SortT}{B C:Int}{w:PW}(h:IW ss B w) (hC:B≤C) : IW ss C w :=
 ⟨h.srt,h.on,h.ok,h.ol,h.rn,h.rk,⟨h.no.1,by have:=h.no.2; omega⟩,⟨h.nr.1,by have:=h.nr.2; omega⟩,h.ot⟩
theorem IW.rkey {ss:List SortT}{B:Int}{w:PW}(h:IW ss B w) : ∀ k∈keys w.2.2.1,1≤k∧k < w.2.2.2.2:=fun k hk=>by
 obtain ⟨e,he,rfl⟩:=List.mem_map.1 hk
 have:=h.rk e he; exact ⟨this.1,this.2.1⟩
theorem IW.rlen {ss:List SortT}{B:Int}{w:PW}(h:IW ss B w) (hB:B≤1000000) : w.2.2.1.length≤1000000:=by
 have h1:=nodup_range h.rn h.rkey
 have:=h.nr
 rcases h1 with h1 | h1
 ·rw [keys,List.length_map] at h1; omega
 ·have : w.2.2.1.length=0:=by rw [← List.length_map (f:=(·.1))]; show (keys w.2.2.1).length=0; rw [h1]; rfl
  omega
theorem IW.new {p:List SortT} : IW p 1 (p,[],[],1,1) :=
 ⟨rfl,List.nodup_nil,fun k hk=>by simp [keys] at hk,by simp,List.nodup_nil,fun e he=>by simp at he,⟨Int.le_refl _,Int.le_refl _⟩,⟨Int.le_refl _,Int.le_refl _⟩,fun e he=>by simp at he⟩
def zBX (w:PW) (k:Int) : Int×Str×List Int:=(mget w.2.2.1 k).getD (0,([] : Str),[])
theorem zCR {w:PW}(hn:(keys w.2.2.1).Nodup){k:Int}(hk:k∈keys w.2.2.1) : (k,zBX w k)∈w.2.2.1:=by
 have h:=zBk.1 hk
 obtain ⟨v,hv⟩:=Option.isSome_iff_exists.1 h
 rw [zBX,hv]; exact mget_mem hv
theorem f75_t {ss:List SortT}{w:PW}(hw:w.1=ss) (nm:Str) : Tot (f75 w nm) fun r=>(r=none∧∀ s∈ss,s.1≠nm)∨∃ s∈ss,s.1=nm∧r=some s:=by
 subst hw
 unfold f75
 refine (f79_t (fun s=>decide (s.1=nm)) (fun x _=>rfl)).bind fun r hr=>?_
 refine zAR (fun h=>zAB (.inl ⟨rfl,fun s hs=>?_⟩)) (fun h=>?_)
 ·rcases hr with ⟨rfl,h1⟩ | ⟨i,rfl,_⟩
  ·have:=h1 s hs; simpa using this
  ·simp at h; omega
 ·rcases hr with ⟨rfl,h1⟩ | ⟨i,rfl,hi,h1,_⟩
  ·simp at h
  ·refine zA2 hi (zAB (.inr ⟨_,zBV hi,by simpa using h1,rfl⟩))
theorem f75o_t {ss:List SortT}{w:PW}(hw:w.1=ss) (nm:Str) : Tot (f75o w nm) fun r=>(r=none∧∀ s∈ss,s.1≠nm)∨∃ s∈ss,s.1=nm∧r=some s:=f75_t hw nm
theorem f75_rel {ss:List SortT}(hS:SS ss){w:PW}(hw:w.1=ss){r:Str×List Int}(hr:RelOk ss r) : Tot (f75 w r.1) fun o=>∃ s∈ss,s.1=r.1∧s.2.length=r.2.length∧o=some s:=by
 obtain ⟨s,hs,h1,h2⟩:=hr
 refine (f75_t hw r.1).mono fun o ho=>?_
 rcases ho with ⟨_,h3⟩ | ⟨t,ht,h3,rfl⟩
 ·exact absurd h1 (h3 s hs)
 ·have : t=s:=hS.uniq t ht s hs (h3.trans h1.symm)
  subst this; exact ⟨_,ht,h3,h2,rfl⟩
def Asked (w:PW) (l:List Int) (r:Int) : Prop:=(r=7∧∃ k∈l,k < 0)∨(r=8∧(∀ k∈l,0≤k)∧∃ k∈l,k∉keys w.2.1)∨(r=0∧(∀ k∈l,0≤k)∧∀ k∈l,k∈keys w.2.1)
theorem f50_t (w:PW) (l:List Int) : Tot (f50 w l) (Asked w l):=by
 unfold f50
 rw [f66_eq (q:=fun y1=>f97 y1) (fun x=>decide (x < 0)) (fun x _=>rfl)]
 simp only [Option.bind_some]
 refine zAR (fun h=>zAB (.inl ⟨rfl,?_⟩)) (fun h=>?_)
 ·obtain ⟨x,hx,h1⟩:=List.any_eq_true.1 h
  exact ⟨x,hx,by simpa using h1⟩
 ·have h0 : ∀ k∈l,0≤k:=fun k hk=>by
   have:=(List.any_eq_false.1 h) k hk
   simp only [decide_eq_true_eq] at this; omega
  refine (zCE (g:=f50_b0 w l) (fun k=>!(mget w.2.1 k).isSome) (fun _=>()) (fun i s=>rfl)).bind fun o ho=>?_
  rcases ho with ⟨rfl,h1⟩ | ⟨i,hi,rfl,h1,_⟩
  ·refine zAB (.inr (.inr ⟨rfl,h0,fun k hk=>zBk.2 ?_⟩))
   have:=(List.any_eq_false.1 h1) k hk
   simpa only [Bool.not_eq_true,Bool.not_eq_false'] using this
  ·refine zAB (.inr (.inl ⟨rfl,h0,l.getD i default,zBV hi,fun hk=>?_⟩))
   rw [zBk.1 hk] at h1; cases h1
theorem f60_eq (l:List Int) (h:l.length≤1000000) : f60 l=some l:=by
 unfold f60
 rw [zBf (by simp only [List.length_nil,Nat.zero_add]; omega)]; rfl
theorem f13_t {ss:List SortT}{B:Int}{w:PW}(h:IW ss B w) (hB:B≤1000000) : f13 w=some (zBT (keys w.2.2.1)):=by
 unfold f13
 simp only [zBs,Option.bind_some]
 rw [skeys_t h.rn h.rkey (by have:=h.nr; omega)]; rfl
theorem f109_t {ss:List SortT}{B:Int}{w:PW}(h:IW ss B w) (hB:B≤1000000){nm:Str}{z:Int}(hz:0≤z) (hl:∀ e∈w.2.2.1,e.2.2.1=nm→z < e.2.2.2.length){v:Int}{σ R:Type}{q:σ→(Int×(Int×Str×List Int))→Option (σ ⊕ R)}{s0:σ}(Inv:Nat→σ→Prop) (h0:Inv 0 s0) (hm:∀ i s,Inv i s→Inv (i+1) s) (hq:∀ i s e,i < w.2.2.1.length→Inv i s→e∈w.2.2.1→e.2.2.1=nm→Tot (q s e) fun o=>∃ s',o=.inl s'∧Inv (i+1) s') : Tot (f109 q s0 w nm z v) fun o=>∃ s,o=.inl s∧Inv w.2.2.1.length s:=by
 unfold f109
 simp only [zBs,Option.bind_some]
 rw [skeys_t h.rn h.rkey (by have:=h.nr; omega)]
 have hlen : (zBT (keys w.2.2.1)).length=w.2.2.1.length:=by rw [zCN,keys,List.length_map]
 simp only [Option.bind_some]
 rw [zBS,show (zBT (w.2.2.1.map (·.1))).length=w.2.2.1.length from hlen]
 refine (zAq (n:=w.2.2.1.length) Inv h0 fun i s hi hs=>?_).bind fun o ho=>?_
 ·unfold f109_b0
  refine zA2 (show i < (zBT (keys w.2.2.1)).length by rw [hlen]; exact hi) ?_
  have hk : (zBT (keys w.2.2.1)).getD i default∈keys w.2.2.1:=zBv.1 (zBV (by rw [hlen]; exact hi))
  have he:=zCR h.rn hk
  show Tot (bif (!(decide ((zBX w ((zBT (keys w.2.2.1)).getD i default)).2.1=nm))||Option.isSome (ix (zBX w ((zBT (keys w.2.2.1)).getD i default)).2.2 z)) then
    bif (decide ((zBX w ((zBT (keys w.2.2.1)).getD i default)).2.1=nm))&&(decide (((ix (zBX w ((zBT (keys w.2.2.1)).getD i default)).2.2 z).getD default)=v)) then
     ((q s ((zBT (keys w.2.2.1)).getD i default,zBX w ((zBT (keys w.2.2.1)).getD i default))).bind fun o18=>match o18 with
      | .inl s20=>(some (.inl s20) : Option (σ ⊕ R))
      | .inr r21=>(some (.inr r21) : Option (σ ⊕ R)))
    else (some (.inl s) : Option (σ ⊕ R)) else none) _
  generalize zBX w ((zBT (keys w.2.2.1)).getD i default)=r at he
  generalize (zBT (keys w.2.2.1)).getD i default=k at he
  refine zAi ?_ (zAR (fun h1=>?_) fun h1=>zAB ⟨_,rfl,hm i s hs⟩)
  ·by_cases hn : r.2.1=nm
   ·have:=hl _ he hn
    rw [ix_int hz this]; simp
   ·simp [hn]
  ·rw [Bool.and_eq_true,decide_eq_true_eq] at h1
   refine (hq i s _ hi hs he h1.1).bind fun o ho=>?_
   obtain ⟨s',rfl,h2⟩:=ho
   exact zAB ⟨_,rfl,h2⟩
 ·obtain ⟨s',rfl,h2⟩:=ho
  exact zAB ⟨_,rfl,h2⟩
theorem rel_len {ss:List SortT}(hS:SS ss){B:Int}{w:PW}(h:IW ss B w){s:SortT}(hs:s∈ss){e:Int×Int×Str×List Int}(he:e∈w.2.2.1) (hn:e.2.2.1=s.1) : e.2.2.2.length=s.2.length:=by
 obtain ⟨t,ht,h1,h2⟩:=(h.rk e he).2.2.2.1
 have : t=s:=hS.uniq t ht s hs (h1.trans hn)
 rw [← h2,this]
abbrev RelE:=Int×Int×Str×List Int
def hit (nm:Str) (i:Nat) (o:Int) (e:RelE) : Bool:=decide (e.2.2.1=nm)&&decide (e.2.2.2.getD i default=o)
def cnt (x:List RelE) (nm:Str) (i:Nat) (o:Int) : Nat:=(x.filter (hit nm i o)).length
theorem nodup_of_keys {β:Type}{x:List (Int×β)}(h:(keys x).Nodup) : x.Nodup :=
 List.Pairwise.of_map (S:=(·≠·)) (·.1) (fun a b h1 h2=>h1 (congrArg _ h2)) h
theorem cnt_sub {x y:List RelE}{nm:Str}{i:Nat}{o:Int}(hn:(keys y).Nodup) (h:∀ e∈y,hit nm i o e=true→e∈x) : cnt y nm i o≤cnt x nm i o:=by
 unfold cnt
 refine zBj ((nodup_of_keys hn).filter _) fun e he=>?_
 rw [List.mem_filter] at he ⊢
 exact ⟨h e he.1 he.2,he.2⟩
def relL (w:PW) : List RelE:=(zBT (keys w.2.2.1)).map fun k=>(k,zBX w k)
theorem relL_len (w:PW) : (relL w).length=w.2.2.1.length:=by rw [relL,List.length_map,zCN,keys,List.length_map]
theorem relL_keys (w:PW) : keys (relL w)=zBT (keys w.2.2.1):=by
 rw [relL,keys,List.map_map]
 exact List.map_id _
theorem relL_mem {w:PW}(hn:(keys w.2.2.1).Nodup){e:RelE} : e∈relL w↔e∈w.2.2.1:=by
 rw [relL,List.mem_map]
 constructor
 ·rintro ⟨k,hk,rfl⟩
  exact zCR hn (zBv.1 hk)
 ·intro he
  refine ⟨e.1,zBv.2 (List.mem_map.2 ⟨e,he,rfl⟩),?_⟩
  rw [zBX,mem_mget hn he]; rfl
theorem relL_nodup {w:PW}(hn:(keys w.2.2.1).Nodup) : (keys (relL w)).Nodup:=by
 rw [relL_keys]; exact (zBw _).nodup_iff.2 hn
theorem relL_cnt {w:PW}(hn:(keys w.2.2.1).Nodup){nm:Str}{i:Nat}{o:Int} : cnt (relL w) nm i o=cnt w.2.2.1 nm i o :=
 Nat.le_antisymm (cnt_sub (relL_nodup hn) fun e he _=>(relL_mem hn).1 he) (cnt_sub hn fun e he _=>(relL_mem hn).2 he)
theorem getD_map {α β:Type} [Inhabited α] {l:List α}{f:α→β}{i:Nat}{d:β}(h:i < l.length) : (l.map f).getD i d=f (l.getD i default):=by
 simp only [List.getD_eq_getElem?_getD,List.getElem?_map,List.getElem?_eq_getElem h,Option.map_some,Option.getD_some]
theorem relL_at {w:PW}{i:Nat}(hi:i < w.2.2.1.length) : (relL w).getD i default=((zBT (keys w.2.2.1)).getD i default,zBX w ((zBT (keys w.2.2.1)).getD i default)) :=
 getD_map (by rw [zCN,keys,List.length_map]; exact hi)
theorem f109_g {ss:List SortT}{B:Int}{w:PW}(h:IW ss B w) (hB:B≤1000000){nm:Str}{j:Nat}(hl:∀ e∈w.2.2.1,e.2.2.1=nm→j < e.2.2.2.length){v:Int}{σ R:Type}{q:σ→(Int×(Int×Str×List Int))→Option (σ ⊕ R)}{s0:σ}(Inv:Nat→σ→Prop) (h0:Inv 0 s0) (hq:∀ i s,i < w.2.2.1.length→Inv i s→(hit nm j v ((relL w).getD i default)=true→Tot (q s ((relL w).getD i default)) fun o=>∃ s',o=.inl s'∧Inv (i+1) s')∧(hit nm j v ((relL w).getD i default)=false→Inv (i+1) s)) : Tot (f109 q s0 w nm (j:Int) v) fun o=>∃ s,o=.inl s∧Inv w.2.2.1.length s:=by
 unfold f109
 simp only [zBs,Option.bind_some]
 rw [skeys_t h.rn h.rkey (by have:=h.nr; omega)]
 have hlen : (zBT (keys w.2.2.1)).length=w.2.2.1.length:=by rw [zCN,keys,List.length_map]
 simp only [Option.bind_some]
 rw [zBS,show (zBT (w.2.2.1.map (·.1))).length=w.2.2.1.length from hlen]
 refine (zAq (n:=w.2.2.1.length) Inv h0 fun i s hi hs=>?_).bind fun o ho=>?_
 ·have hq':=hq i s hi hs
  rw [relL_at hi] at hq'
  unfold f109_b0
  refine zA2 (show i < (zBT (keys w.2.2.1)).length by rw [hlen]; exact hi) ?_
  have hk : (zBT (keys w.2.2.1)).getD i default∈keys w.2.2.1:=zBv.1 (zBV (by rw [hlen]; exact hi))
  have he:=zCR h.rn hk
  show Tot (bif (!(decide ((zBX w ((zBT (keys w.2.2.1)).getD i default)).2.1=nm))||Option.isSome (ix (zBX w ((zBT (keys w.2.2.1)).getD i default)).2.2 (j:Int))) then
    bif (decide ((zBX w ((zBT (keys w.2.2.1)).getD i default)).2.1=nm))&&(decide (((ix (zBX w ((zBT (keys w.2.2.1)).getD i default)).2.2 (j:Int)).getD default)=v)) then
     ((q s ((zBT (keys w.2.2.1)).getD i default,zBX w ((zBT (keys w.2.2.1)).getD i default))).bind fun o18=>match o18 with
      | .inl s20=>(some (.inl s20) : Option (σ ⊕ R))
      | .inr r21=>(some (.inr r21) : Option (σ ⊕ R)))
    else (some (.inl s) : Option (σ ⊕ R)) else none) _
  generalize (zBT (keys w.2.2.1)).getD i default=k at he hq' ⊢
  generalize zBX w k=r at he hq' ⊢
  have hh : (decide (r.2.1=nm)&&decide (((ix r.2.2 (j:Int)).getD default)=v))=hit nm j v (k,r):=by
   unfold hit
   by_cases hn : r.2.1=nm
   ·have:=hl _ he hn
    rw [zBW this]; simp
   ·simp [hn]
  rw [hh]
  refine zAi ?_ (zAR (fun h1=>?_) fun h1=>zAB ⟨_,rfl,hq'.2 h1⟩)
  ·by_cases hn : r.2.1=nm
   ·have:=hl _ he hn
    rw [zBW this]; simp
   ·simp [hn]
  ·refine (hq'.1 h1).bind fun o ho=>?_
   obtain ⟨s',rfl,h2⟩:=ho
   exact zAB ⟨_,rfl,h2⟩
 ·obtain ⟨s',rfl,h2⟩:=ho
  exact zAB ⟨_,rfl,h2⟩
theorem filter_snoc {α:Type} [Inhabited α] {l:List α}{f:α→Bool}{i:Nat}(hi:i < l.length) : (l.take (i+1)).filter f=(l.take i).filter f++if f (l.getD i default) then [l.getD i default] else []:=by
 rw [zCx default hi,List.filter_append]
 congr 1
 generalize l.getD i default=x
 cases h : f x <;> simp [h]
theorem f105_eq {ss:List SortT}{B:Int}{w:PW}(h:IW ss B w) (hB:B≤1000000){nm:Str}{j:Nat}(hl:∀ e∈w.2.2.1,e.2.2.1=nm→j < e.2.2.2.length) (v:Int) : f105 w v nm (j:Int)=some (cnt w.2.2.1 nm j v : Int):=by
 have h1 : Tot (f105 w v nm (j:Int)) (·=(cnt w.2.2.1 nm j v : Int)):=by
  unfold f105
  refine (zBN (show f65 w v nm (j:Int)=some () from rfl)).bind fun _ _=>?_
  have hr:=h.rlen hB
  refine (f109_g h hB hl (q:=f105_b0) (fun i s=>s=((((relL w).take i).filter (hit nm j v)).length : Int)) (by simp) (fun i s hi hs=>?_)).bind fun o ho=>?_
  ·subst hs
   rw [filter_snoc (by rw [relL_len]; exact hi)]
   have hle : (((relL w).take i).filter (hit nm j v)).length≤i:=Nat.le_trans (List.length_filter_le _ _) (by rw [List.length_take]; omega)
   refine ⟨fun h2=>?_,fun h2=>?_⟩
   ·rw [if_pos h2]
    unfold f105_b0
    refine zAB ⟨_,rfl,?_⟩
    rw [w64_id (by constructor <;> omega),List.length_append]; simp
   ·rw [h2]; simp
  ·obtain ⟨s,rfl,hs⟩:=ho
   refine zAB ?_
   rw [hs,← relL_cnt h.rn,cnt,List.take_of_length_le (by rw [relL_len]; exact Nat.le_refl _)]
 exact h1.eq
def MX (ss:List SortT) (x:List RelE) : Prop:=∀ s∈ss,∀ i,i < s.2.length→0 < (s.2.getD i default).2.2.1→∀ o,(cnt x s.1 i o : Int)≤(s.2.getD i default).2.2.1
theorem MX.nil {ss:List SortT}(hS:SS ss) : MX ss []:=fun s hs i hi h0 o=>by
 show ((0:Nat) : Int)≤_; omega
theorem MX.sub {ss:List SortT}{x y:List RelE}(h:MX ss x) (hn:(keys y).Nodup) (hs:∀ e∈y,e∈x) : MX ss y:=fun s hs' i hi h0 o=>by
 have h1:=h s hs' i hi h0 o
 have h2 : cnt y s.1 i o≤cnt x s.1 i o:=cnt_sub hn fun e he _=>hs e he
 omega
def NotFull (ss:List SortT) (x:List RelE) (e:RelE) : Prop:=∀ s∈ss,s.1=e.2.2.1→∀ i,i < s.2.length→0 < (s.2.getD i default).2.2.1→(cnt x s.1 i (e.2.2.2.getD i default) : Int)≤(s.2.getD i default).2.2.1
theorem MX.add {ss:List SortT}{x y:List RelE}(h:MX ss x) (hn:(keys y).Nodup) (hs:∀ e∈y,e∈x∨NotFull ss y e) : MX ss y:=fun s hs' i hi h0 o=>by
 by_cases hc : ∃ e∈y,hit s.1 i o e=true∧NotFull ss y e
 ·obtain ⟨e,he,h1,h2⟩:=hc
  simp only [hit,Bool.and_eq_true,decide_eq_true_eq] at h1
  have h3:=h2 s hs' h1.1.symm i hi h0
  rw [h1.2] at h3; exact h3
 ·have h1:=h s hs' i hi h0 o
  have h2 : cnt y s.1 i o≤cnt x s.1 i o:=cnt_sub hn fun e he h3=>by
   rcases hs e he with h4 | h4
   ·exact h4
   ·exact absurd ⟨e,he,h3,h4⟩ hc
  omega
theorem f63_full {ss:List SortT}(hS:SS ss){B:Int}{w:PW}(h:IW ss B w) (hB:B≤1000000){e:RelE}(hr:RelOk ss e.2.2) : Tot (f63 w e.2) fun b=>b=false→NotFull ss w.2.2.1 e:=by
 unfold f63
 refine (f75_rel hS h.srt hr).bind fun o ho=>?_
 obtain ⟨s,hs,h1,h2,rfl⟩:=ho
 simp only [Option.bind_some]
 rw [zBS]
 refine (zA1 (fun i _=>∀ j,j < i→0 < (s.2.getD j default).2.2.1→(cnt w.2.2.1 s.1 j (e.2.2.2.getD j default) : Int)≤(s.2.getD j default).2.2.1) (fun _=>True) (fun j hj=>absurd hj (by omega)) fun i u hi hs'=>?_).bind fun o ho=>?_
 ·unfold f63_b0
  refine zA2 hi ?_
  have hx : ix e.2.2.2 (i:Int)=some (e.2.2.2.getD i default):=zBW (by omega)
  rw [hx]
  have hc:=f105_eq h hB (nm:=e.2.2.1) (j:=i) (fun e' he hn=>by
   have:=rel_len hS h hs he (hn.trans h1.symm)
   omega) (e.2.2.2.getD i default)
  simp only [Option.getD_some,hc,Option.isSome_some,Bool.or_true,cond_true]
  refine zAR (fun _=>zAB (.inr ⟨_,rfl,trivial⟩)) (fun h3=>zAB (.inl ⟨_,rfl,fun j hj h4=>?_⟩))
  rcases Nat.lt_or_ge j i with h5 | h5
  ·exact hs' j h5 h4
  ·have : j=i:=by omega
   subst this
   simp only [Bool.and_eq_false_iff,decide_eq_false_iff_not] at h3
   rw [h1]; omega
 ·rcases ho with ⟨_,rfl,h3⟩ | ⟨_,rfl,_⟩
  ·refine zAB fun _ t ht h4=>?_
   have : t=s:=hS.uniq t ht s hs (h4.trans h1.symm)
   subst this; exact h3
  ·exact zAB fun h=>by cases h
theorem zCb {z:Int}(h0:-1000000000≤z) (h:z≤1000000000) : w64 z=z:=w64_id (by constructor <;> omega)
theorem f72_eq (n:Int) : f72 n=some (decide (0≤n)&&decide (n≤1000)):=rfl
theorem IW.addO {ss:List SortT}{B:Int}{w:PW}(h:IW ss B w) (hB:B≤1000000) (hl:w.2.1.length≠500){v:Int×Int×Str}(hv:v.1=w.2.2.2.1∧v.2.2.length≤1000) : IW ss (B+1) (w.1,mset w.2.1 w.2.2.2.1 v,w.2.2.1,w64 (w.2.2.2.1+1),w.2.2.2.2):=by
 have hn:=h.no
 have hr:=h.nr
 rw [zCb (by omega) (by omega)]
 refine ⟨h.srt,zBZ _ _ h.on,fun k hk=>?_,?_,h.rn,fun e he=>?_,⟨?_,?_⟩,⟨hr.1,by show w.2.2.2.2≤B+1; omega⟩,fun e he=>?_⟩
 ·rcases zBc.1 hk with h1 | h1
  ·subst h1; show 1≤w.2.2.2.1∧w.2.2.2.1 < w.2.2.2.1+1; omega
  ·have:=h.ok k h1; show 1≤k∧k < w.2.2.2.1+1; omega
 ·have:=mset_length (x:=w.2.1) (k:=w.2.2.2.1) (v:=v)
  have:=h.ol
  show (mset w.2.1 w.2.2.2.1 v).length≤500; omega
 ·obtain ⟨h1,h2,h3,h4,h5⟩:=h.rk e he
  exact ⟨h1,h2,h3,h4,fun o ho=>zBc.2 (.inr (h5 o ho))⟩
 ·show 1≤w.2.2.2.1+1; omega
 ·show w.2.2.2.1+1≤B+1; omega
 ·rcases mset_mem he with h1 | h1
  ·subst h1; exact hv
  ·exact h.ot e h1
theorem f23_t {ss:List SortT}{B:Int}{w:PW}(h:IW ss B w) (hB:B≤1000000) (p1:Int) (p2:Str) : Tot (f23 w p1 p2) fun r=>IW ss (B+1) r.2.2∧(∀ k∈keys w.2.1,k∈keys r.2.2.2.1)∧r.2.2.2.2.1=w.2.2.1∧(r.1=0∨r.1∈keys r.2.2.2.1):=by
 have hm:=h.mono (C:=B+1) (by omega)
 unfold f23
 refine zAR (fun _=>zAB ⟨hm,fun k hk=>hk,rfl,.inl rfl⟩) (fun hx=>?_)
 rw [f72_eq]
 simp only [Option.bind_some]
 refine zAR (fun _=>zAB ⟨hm,fun k hk=>hk,rfl,.inl rfl⟩) (fun _=>?_)
 refine zAR (fun _=>zAB ⟨hm,fun k hk=>hk,rfl,.inl rfl⟩) (fun hl=>?_)
 refine zAB ⟨h.addO hB (by simp only [decide_eq_false_iff_not] at hl; omega) ⟨rfl,by simp only [Bool.false_or,decide_eq_false_iff_not] at hx; show p2.length≤1000; omega⟩,fun k hk=>zBc.2 (.inr hk),rfl,.inr (zBc.2 (.inl rfl))⟩
theorem zCL {ss:List SortT}(hS:SS ss){r:Str×List Int}(hr:RelOk ss r) : 2≤r.2.length∧r.2.length≤3:=by
 obtain ⟨s,hs,_,h2⟩:=hr
 have:=hS.len s hs; omega
theorem f62_eq (w:PW) (p1:Str) (p2:List Int) (hl:p2.length≤1000) : f62 w p1 p2=some (w.2.2.2.2,(w.1,w.2.1,mset w.2.2.1 w.2.2.2.2 (w.2.2.2.2,p1,p2),w.2.2.2.1,w64 (w.2.2.2.2+1))):=by
 unfold f62; rw [f60_eq _ (by omega)]; rfl
theorem IW.addR {ss:List SortT}{B:Int}{w:PW}(h:IW ss B w) (hB:B≤1000000){p1:Str}{p2:List Int}(hr:RelOk ss (p1,p2)) (ho:∀ o∈p2,o∈keys w.2.1) : IW ss (B+1) (w.1,w.2.1,mset w.2.2.1 w.2.2.2.2 (w.2.2.2.2,p1,p2),w.2.2.2.1,w64 (w.2.2.2.2+1)):=by
 have hn:=h.no
 have hk:=h.nr
 rw [zCb (by omega) (by omega)]
 refine ⟨h.srt,h.on,h.ok,h.ol,zBZ _ _ h.rn,fun e he=>?_,⟨hn.1,by show w.2.2.2.1≤B+1; omega⟩,⟨?_,?_⟩,h.ot⟩
 ·rcases mset_mem he with h1 | h1
  ·subst h1
   refine ⟨hk.1,?_,rfl,hr,ho⟩
   show w.2.2.2.2 < w.2.2.2.2+1; omega
  ·obtain ⟨h1,h2,h3,h4,h5⟩:=h.rk e h1
   refine ⟨h1,?_,h3,h4,h5⟩
   show e.1 < w.2.2.2.2+1; omega
 ·show 1≤w.2.2.2.2+1; omega
 ·show w.2.2.2.2+1≤B+1; omega
theorem f73_some {p:Str}(h:p.length≤100000) : Option.isSome (f73 p)=true:=by rw [f73_eq p h]; rfl
theorem len_sub {β:Type}{x y:List (Int×β)}(hn:(keys y).Nodup) (h:∀ e∈y,e.1∈keys x) : y.length≤x.length:=by
 have h1:=zBj (m:=keys x) hn fun k hk=>by
  obtain ⟨e,he,rfl⟩:=List.mem_map.1 hk
  exact h e he
 rw [keys,keys,List.length_map,List.length_map] at h1; exact h1
theorem f24_t {ss:List SortT}(hS:SS ss){B:Int}{w:PW}(h:IW ss B w) (hB:B≤999999) (hc:w.2.2.1.length≤1000){p1:Str}{p2:List Int}(hp:p1.length≤100000) : Tot (f24 w p1 p2) fun r=>IW ss (B+1) r.2.2∧r.2.2.2.2.1.length≤1000∧(MX ss w.2.2.1→MX ss r.2.2.2.2.1):=by
 have hm:=h.mono (C:=B+1) (by omega)
 unfold f24
 rw [f73_some hp]
 refine zAi (by simp) (zAR (fun _=>zAB ⟨hm,hc,fun h=>h⟩) (fun _=>?_))
 rw [f66_eq (q:=fun y1=>f74 y1) (fun x=>decide (x < 0)) (fun x _=>rfl)]
 simp only [Option.bind_some]
 refine zAR (fun _=>zAB ⟨hm,hc,fun h=>h⟩) (fun _=>?_)
 refine (f75o_t h.srt p1).bind fun x7 hx=>?_
 rcases hx with ⟨rfl,_⟩ | ⟨s,hs,h1,rfl⟩
 ·exact zAB ⟨hm,hc,fun h=>h⟩
 ·refine zAR (fun _=>zAB ⟨hm,hc,fun h=>h⟩) (fun _=>?_)
  refine (f50_t w p2).bind fun x10 hx=>?_
  refine zAR (fun _=>zAB ⟨hm,hc,fun h=>h⟩) (fun h0=>?_)
  have h0' : x10=0:=by simpa using h0
  have ho : ∀ k∈p2,k∈keys w.2.1:=by
   rcases hx with ⟨h2,_⟩ | ⟨h2,_⟩ | ⟨_,_,h2⟩
   ·omega
   ·omega
   ·exact h2
  simp only [Option.bind_some]
  refine zAR (fun _=>zAB ⟨hm,hc,fun h=>h⟩) (fun hl=>?_)
  have hl' : p2.length=s.2.length:=by
   simp only [Bool.not_eq_false',decide_eq_true_eq] at hl; omega
  have hr : RelOk ss (p1,p2):=⟨s,hs,h1,hl'.symm⟩
  have h3:=zCL hS hr
  rw [f62_eq w p1 p2 (by have:=h3.2; simp only at this; omega)]
  simp only [Option.bind_some]
  have hI:=h.addR (by omega) hr ho
  rw [zC1,if_pos rfl]
  simp only [Option.getD_some]
  have hv : Tot ((f63 (w.1,w.2.1,mset w.2.2.1 w.2.2.2.2 (w.2.2.2.2,p1,p2),w.2.2.2.1,w64 (w.2.2.2.2+1)) (w.2.2.2.2,p1,p2)).bind fun x21 =>
    bif x21 then
     (some (.inl 9))
    else
     (bif decide (1000 < (List.length (mset w.2.2.1 w.2.2.2.2 (w.2.2.2.2,p1,p2)) : Int)) then
      (some (.inl 4))
     else
      (some (.inl 0) : Option (Int ⊕ Unit)))) fun o=>∃ n,o=.inl n∧(n=0→(mset w.2.2.1 w.2.2.2.2 (w.2.2.2.2,p1,p2)).length≤1000∧NotFull ss (mset w.2.2.1 w.2.2.2.2 (w.2.2.2.2,p1,p2)) (w.2.2.2.2,w.2.2.2.2,p1,p2)):=by
   refine (f63_full hS hI (by omega) (e:=(w.2.2.2.2,w.2.2.2.2,p1,p2)) hr).bind fun b hb=>?_
   exact zAR (fun _=>⟨_,rfl,_,rfl,fun h=>absurd h (by decide)⟩) (fun hb0=>zAR (fun _=>⟨_,rfl,_,rfl,fun h=>absurd h (by decide)⟩) (fun h8=>⟨_,rfl,_,rfl,fun _=>⟨by have:=of_decide_eq_false h8; omega,hb hb0⟩⟩))
  refine hv.bind fun o ho=>?_
  obtain ⟨n,rfl,hn0⟩:=ho
  have hd : ∀ e∈mdel (mset w.2.2.1 w.2.2.2.2 (w.2.2.2.2,p1,p2)) w.2.2.2.2,e∈w.2.2.1:=fun e he=>by
   have h4:=(zCo (zBZ _ _ h.rn)).1 he
   rcases mset_mem h4.1 with h5 | h5
   ·rw [h5] at h4; exact absurd rfl h4.2
   ·exact h5
  refine zAR (fun _=>zAB ⟨?_,?_,fun h7=>h7.sub (zCC _ (zBZ _ _ h.rn)) hd⟩) (fun h6=>zAB ⟨hI,(hn0 (by simpa using h6)).1,fun h7=>h7.add (zBZ _ _ h.rn) fun e he=>(mset_mem he).elim (fun h8=>.inr (h8 ▸ (hn0 (by simpa using h6)).2)) .inl⟩)
  rotate_left
  ·exact Nat.le_trans (len_sub (zCC _ (zBZ _ _ h.rn)) fun e he=>List.mem_map.2 ⟨e,hd e he,rfl⟩) hc
  have hn:=h.no
  have hk:=h.nr
  simp only
  rw [zCb (z:=w.2.2.2.2+1) (by omega) (by omega),zCb (by omega) (by omega)]
  refine ⟨h.srt,h.on,h.ok,h.ol,zCC _ (zBZ _ _ h.rn),fun e he=>?_,⟨hn.1,by show w.2.2.2.1≤B+1; omega⟩,⟨?_,?_⟩,h.ot⟩
  ·obtain ⟨h1,h2,h3,h4,h5⟩:=h.rk e (hd e he)
   refine ⟨h1,?_,h3,h4,h5⟩
   show e.1 < w.2.2.2.2+1 - 1; omega
  ·show 1≤w.2.2.2.2+1 - 1; omega
  ·show w.2.2.2.2+1 - 1≤B+1; omega
theorem f55_t {ss:List SortT}(hS:SS ss){B:Int}{w:PW}(h:IW ss B w) (k:Int) : Tot (f55 w k) fun r=>(r.2≠0∧k∉keys w.2.2.1)∨(r.2=0∧k∈keys w.2.2.1∧r.1=zBX w k):=by
 unfold f55
 refine zAR (fun h1=>zAB (.inl ⟨by show (7:Int)≠0; decide,fun hk=>?_⟩)) (fun h1=>?_)
 ·have:=h.rkey k hk; simp only [decide_eq_true_eq] at h1; omega
 ·refine zAR (fun h2=>zAB (.inl ⟨by show (8:Int)≠0; decide,fun hk=>?_⟩)) (fun h2=>?_)
  ·rw [zBk.1 hk] at h2; cases h2
  ·have hk : k∈keys w.2.2.1:=zBk.2 (by simpa using h2)
   have hr:=zCL hS (h.rk _ (zCR h.rn hk)).2.2.2.1
   have hf : f60 (zBX w k).2.2=some (zBX w k).2.2:=f60_eq _ (by have:=hr.2; simp only at this; omega)
   have hf' : f60 (((((mget w.2.2.1 k).getD (0,([] : Str),[]))).2).2)=some (zBX w k).2.2:=hf
   rw [hf']
   exact zAB (.inr ⟨rfl,hk,rfl⟩)
theorem f14_t {ss:List SortT}(hS:SS ss){B:Int}{w:PW}(h:IW ss B w) (k:Int) : Tot (f14 w k) fun r=>(r.2≠0∧k∉keys w.2.2.1)∨(r.2=0∧k∈keys w.2.2.1∧r.1=zBX w k):=by
 unfold f14
 exact (f55_t hS h k).bind fun r hr=>zAB hr
theorem IW.delR {ss:List SortT}{B:Int}{w:PW}(h:IW ss B w){x:List (Int×Int×Str×List Int)}(hx:∀ e∈x,e∈w.2.2.1) (hn:(keys x).Nodup) : IW ss B (w.1,w.2.1,x,w.2.2.2.1,w.2.2.2.2) :=
 ⟨h.srt,h.on,h.ok,h.ol,hn,fun e he=>h.rk e (hx e he),h.no,h.nr,h.ot⟩
theorem f33_t {ss:List SortT}(hS:SS ss){B:Int}{w:PW}(h:IW ss B w) (k:Int) : Tot (f33 w k) fun r=>IW ss B r.2∧r.2.2.2.1.length≤w.2.2.1.length∧∀ e∈r.2.2.2.1,e∈w.2.2.1:=by
 unfold f33
 refine (f55_t hS h k).bind fun r hr=>?_
 exact zAR (fun _=>zAB ⟨h,Nat.le_refl _,fun e he=>he⟩) (fun _=>zAB ⟨h.delR (fun e he=>((zCo h.rn).1 he).1) (zCC _ h.rn),len_sub (zCC _ h.rn) fun e he=>List.mem_map.2 ⟨e,((zCo h.rn).1 he).1,rfl⟩,fun e he=>((zCo h.rn).1 he).1⟩)
theorem f17_t (w:PW) (k:Int) : Tot (f17 w k) fun _=>True:=by
 unfold f17 f57
 obtain ⟨x,hx,_⟩:=f50_t w [k]
 rw [hx]
 simp only [Option.bind_some]
 exact zAR (fun _=>zAB trivial) (fun _=>zAB trivial)
theorem f57_t (w:PW) (l:List Int) : Tot (f57 w l) (Asked w l):=by
 unfold f57
 exact (f50_t w l).bind fun r hr=>zAB hr
theorem f64_t {ss:List SortT}{w:PW}(hw:w.1=ss) (p1:Int){p2:Str}{p3:List Str}(h2:p2.length≤100000) (h3:∀ y∈p3,y.length≤100000) (hl:p3.length≤100) : Tot (f64 w p1 p2 p3) fun r=>r.1=0→∃ s∈ss,s.1=p2∧r.2.length=p3.length∧∀ z∈r.2,0≤z∧z < s.2.length:=by
 unfold f64
 have hf : f106 p3 (fun y1=>f107 y1)=some (p3.any fun y=>!nameB y):=f106_eq _ (fun y hy=>by
  show (f73 y).bind _=_
  rw [f73_eq y (h3 y hy)]; rfl)
 rw [f73_some h2,hf]
 refine zAi (by simp) (zAi (by simp) (zAR (fun _=>zAB fun h=>absurd h (by decide)) (fun _=>zAR (fun _=>zAB fun h=>absurd h (by decide)) (fun _=>?_))))
 refine (f75_t hw p2).bind fun x6 hx=>?_
 rcases hx with ⟨rfl,_⟩ | ⟨s,hs,h4,rfl⟩
 ·exact zAB fun h=>absurd h (by decide)
 ·refine zAR (fun _=>zAB fun h=>absurd h (by decide)) (fun _=>?_)
  rw [zBS]
  refine (zA1 (fun i l=>l.length=i∧∀ z : Int,z∈l→0≤z∧z < s.2.length) (fun _=>True) ⟨rfl,fun z hz=>by simp at hz⟩ fun i l hi hl'=>?_).bind fun o ho=>?_
  ·unfold f64_b0
   refine zA2 hi ?_
   have h5 : Tot (f108 (some s) (p3.getD i default)) (Find s.2 fun y=>decide (y.1=p3.getD i default)):=by
    unfold f108
    exact (f112_t (q:=fun y1=>f122 y1 (p3.getD i default)) (fun y=>decide (y.1=p3.getD i default)) (fun y _=>rfl)).bind fun r hr=>zAB hr
   refine h5.bind fun r hr=>?_
   refine zAR (fun _=>zAB (.inr ⟨_,rfl,trivial⟩)) (fun h6=>?_)
   refine zAi (zBf (by rw [List.length_singleton]; omega)) (zAB (.inl ⟨_,rfl,by rw [List.length_append,hl'.1]; rfl,fun z hz=>?_⟩))
   rcases List.mem_append.1 hz with hz | hz
   ·exact hl'.2 z hz
   ·rw [List.mem_singleton] at hz; subst hz
    rcases hr with ⟨rfl,_⟩ | ⟨j,rfl,hj,_⟩
    ·simp at h6
    ·omega
  ·rcases ho with ⟨l,rfl,h5,h6⟩ | ⟨_,rfl,_⟩
   ·obtain ⟨x,hx,_⟩:=f50_t w [p1]
    simp only [hx,Option.bind_some]
    exact zAB fun _=>⟨s,hs,h4,h5,h6⟩
   ·exact zAB fun h=>absurd h (by decide)
theorem f19_t {ss:List SortT}(hS:SS ss){B:Int}{w:PW}(h:IW ss B w) (hB:B≤1000000) (p1:Int){p2 p3:Str}(h2:p2.length≤100000) (h3:p3.length≤100000) : Tot (f19 w p1 p2 p3) fun _=>True:=by
 unfold f19
 refine (f64_t h.srt p1 h2 (p3:=[p3]) (fun y hy=>by rw [List.mem_singleton] at hy; subst hy; exact h3) (by simp)).bind fun x hx=>?_
 refine zAR (fun _=>zAB trivial) (fun h0=>?_)
 obtain ⟨s,hs,h4,h5,h6⟩:=hx (by simpa using h0)
 have hl : 0 < x.2.length:=by rw [h5]; exact Nat.zero_lt_one
 refine tot_ixz (by omega) (by omega) ?_
 have h7:=h6 _ (zBV (d:=default) (j:=Int.toNat 0) (by simpa using hl))
 generalize x.2.getD (Int.toNat 0) default=z at h7
 refine (zBN (show f65 w p1 p2 z=some () from rfl)).bind fun _ _=>?_
 have hr:=h.rlen hB
 refine (f109_t h hB (nm:=p2) h7.1 (fun e he hn=>by have:=rel_len hS h hs he (hn.trans h4.symm); omega) (q:=f19_b0) (fun i l=>l.length≤i) (by simp) (fun i l hl=>Nat.le_succ_of_le hl) (fun i l e hi hl he hn=>?_)).bind fun o ho=>?_
 ·obtain ⟨a,b⟩:=e
  unfold f19_b0
  exact zAi (zBf (by rw [List.length_singleton]; omega)) (zAB ⟨_,rfl,by rw [List.length_append,List.length_singleton]; omega⟩)
 ·obtain ⟨l,rfl,_⟩:=ho
  exact zAB trivial
theorem isortI_len (l:List Int) : (zBT l).length=l.length:=zCN
theorem f38_t {ss:List SortT}(hS:SS ss){B:Int}{w:PW}(h:IW ss B w) (hB:B≤1000000) (p1:Int){p2 p3 p4:Str}(h2:p2.length≤100000) (h3:p3.length≤100000) (h4:p4.length≤100000) : Tot (f38 w p1 p2 p3 p4) fun _=>True:=by
 unfold f38
 refine (f64_t h.srt p1 h2 (p3:=[p3,p4]) (fun y hy=>by
  rcases List.mem_cons.1 hy with hy | hy
  ·subst hy; exact h3
  ·rw [List.mem_singleton] at hy; subst hy; exact h4) (by simp)).bind fun x hx=>?_
 refine zAR (fun _=>zAB trivial) (fun h0=>?_)
 obtain ⟨s,hs,h4,h5,h6⟩:=hx (by simpa using h0)
 have hl : x.2.length=2:=h5
 refine tot_ixz (by omega) (by omega) ?_
 have h7:=h6 _ (zBV (d:=default) (j:=Int.toNat 0) (show 0 < x.2.length by omega))
 generalize x.2.getD (Int.toNat 0) default=z at h7
 refine (zBN (show f65 w p1 p2 z=some () from rfl)).bind fun _ _=>?_
 have hr:=h.rlen hB
 refine (f109_t h hB (nm:=p2) h7.1 (fun e he hn=>by have:=rel_len hS h hs he (hn.trans h4.symm); omega) (q:=f38_b0 x) (fun i l=>l.length≤i) (by simp) (fun i l hl=>Nat.le_succ_of_le hl) (fun i l e hi hl' he hn=>?_)).bind fun o ho=>?_
 ·obtain ⟨a,b⟩:=e
  unfold f38_b0
  refine tot_ixz (by omega) (by omega) ?_
  have h8:=h6 _ (zBV (d:=default) (j:=Int.toNat 1) (show 1 < x.2.length by omega))
  have h9:=rel_len hS h hs he (hn.trans h4.symm)
  refine tot_ixz h8.1 (by show _ < ((b.2.2.length : Nat) : Int); simp only at h9; omega) ?_
  exact zAi (zBf (by rw [List.length_singleton]; omega)) (zAB ⟨_,rfl,by rw [List.length_append,List.length_singleton]; omega⟩)
 ·obtain ⟨l,rfl,h8⟩:=ho
  simp only
  have e1 : f88 l=some (zBT l):=by
   unfold f88
   rw [show Nat.blt l.length 4611686018427387904=true by rw [Nat.blt_eq]; omega]; rfl
  have e2 : f89 (zBT l)=some (compI (zBT l)):=by
   unfold f89
   rw [show Nat.ble (zBT l).length 9223372036854775807=true by rw [Nat.ble_eq,isortI_len]; omega]; rfl
  simp only [e1,e2,Option.bind_some]
  exact zAB trivial
def wayOf (a:Nat) (r:RoleT) : Int:=if a=94 then r.2.2.2.1 else if a=95 then r.2.2.2.2.1 else r.2.2.2.2.2
def WayN (a:Nat) : Prop:=a=94∨a=95∨a=96
theorem fdyn_eq {a:Nat}(h:WayN a) (r:RoleT) : fdyn a r=some (wayOf a r):=by
 rcases h with h | h | h <;> subst h <;> rfl
def zCd (ss:List SortT) (nm:Str) : SortT:=(ss.find? fun s=>decide (s.1=nm)).getD default
theorem sortFor_eq {ss:List SortT}(hS:SS ss){s:SortT}(hs:s∈ss) : zCd ss s.1=s:=by
 unfold zCd
 cases h : ss.find? fun t=>decide (t.1=s.1) with
 | none =>
  have:=(List.find?_eq_none.1 h) s hs
  simp at this
 | some t =>
  have h1:=List.find?_some h
  have h2:=List.mem_of_find?_eq_some h
  exact hS.uniq t h2 s hs (by simpa using h1)
theorem sortFor_rel {ss:List SortT}(hS:SS ss){r:Str×List Int}(hr:RelOk ss r) : zCd ss r.1∈ss∧(zCd ss r.1).1=r.1∧(zCd ss r.1).2.length=r.2.length:=by
 obtain ⟨s,hs,h1,h2⟩:=hr
 rw [← h1,sortFor_eq hS hs]; exact ⟨hs,rfl,h2⟩
theorem f75_for {ss:List SortT}(hS:SS ss){w:PW}(hw:w.1=ss){r:Str×List Int}(hr:RelOk ss r) : f75 w r.1=some (some (zCd ss r.1)):=by
 have h : Tot (f75 w r.1) (fun o=>o=some (zCd ss r.1)):=(f75_rel hS hw hr).mono fun o ho=>by
  obtain ⟨s,hs,h1,_,rfl⟩:=ho
  rw [← h1,sortFor_eq hS hs]
 exact h.eq
def zCw (ss:List SortT) (a:Nat) (r:Str×List Int) (i:Nat) : Int:=wayOf a ((zCd ss r.1).2.getD i default)
def Good (ss:List SortT) (a:Nat) (w:PW) (k x:Int) (D R:List Int) : Prop:=∀ i,i < (zBX w k).2.2.length→(zBX w k).2.2.getD i default=x→zCw ss a (zBX w k).2 i≠3→k∈R∧(zCw ss a (zBX w k).2 i=1→∀ o∈(zBX w k).2.2,o∈D)
def Touch (ss:List SortT) (a:Nat) (w:PW) (k:Int) (D:List Int) : Prop:=∃ i,i < (zBX w k).2.2.length∧(zBX w k).2.2.getD i default∈D∧zCw ss a (zBX w k).2 i≠3
theorem Good.mono {ss:List SortT}{a:Nat}{w:PW}{k x:Int}{D R D' R':List Int}(h:Good ss a w k x D R) (hD:∀ x∈D,x∈D') (hR:∀ x∈R,x∈R') : Good ss a w k x D' R':=fun i hi he hw =>
 ⟨hR _ (h i hi he hw).1,fun h1 o ho=>hD _ ((h i hi he hw).2 h1 o ho)⟩
theorem Touch.mono {ss:List SortT}{a:Nat}{w:PW}{k:Int}{D D':List Int}(h:Touch ss a w k D) (hD:∀ x∈D,x∈D') : Touch ss a w k D':=by
 obtain ⟨i,h1,h2,h3⟩:=h; exact ⟨i,h1,hD _ h2,h3⟩
abbrev BM:=List (Int×Bool)
def TS (d:BM) : Prop:=(keys d).Nodup∧∀ e∈d,e.2=true
theorem TS.get {d:BM}(h:TS d){x:Int} : (mget d x).getD false=true↔x∈keys d:=by
 constructor
 ·intro h1; rw [keys,zBk]; cases h2 : mget d x with
  | none=>rw [h2] at h1; cases h1
  | some v=>rfl
 ·intro h1
  obtain ⟨v,hv⟩:=Option.isSome_iff_exists.1 (zBk.1 h1)
  rw [hv]; exact h.2 _ (mget_mem hv)
theorem TS.set {d:BM}(h:TS d) (x:Int) : TS (mset d x true):=⟨zBZ _ _ h.1,fun e he=>by
 rcases mset_mem he with h1 | h1
 ·rw [h1]
 ·exact h.2 e h1⟩
theorem TS.nil : TS []:=⟨List.nodup_nil,fun e he=>by simp at he⟩
structure Ext (ss:List SortT) (a:Nat) (w:PW) (d r t:BM) (o:BM×BM×BM) : Prop where
 t : o.2.2=t
 td : TS o.1
 tr : TS o.2.1
 sd : ∀ x∈keys d,x∈keys o.1
 sr : ∀ x∈keys r,x∈keys o.2.1
 od : ∀ x∈keys o.1,x∈keys w.2.1
 ro : ∀ x∈keys o.2.1,x∈keys w.2.2.1
 good : ∀ x∈keys o.1,x∈keys d∨∀ k∈keys w.2.2.1,Good ss a w k x (keys o.1) (keys o.2.1)
 tch : ∀ k∈keys o.2.1,k∈keys r∨Touch ss a w k (keys o.1)
theorem Ext.refl {ss:List SortT}{a:Nat}{w:PW}{d r t:BM}(h1:TS d) (h2:TS r) (h3:∀ x∈keys d,x∈keys w.2.1) (h4:∀ x∈keys r,x∈keys w.2.2.1) : Ext ss a w d r t (d,r,t) :=
 ⟨rfl,h1,h2,fun x hx=>hx,fun x hx=>hx,h3,h4,fun x hx=>.inl hx,fun x hx=>.inl hx⟩
theorem Ext.trans {ss:List SortT}{a:Nat}{w:PW}{d r t:BM}{o o':BM×BM×BM}(h:Ext ss a w d r t o) (h':Ext ss a w o.1 o.2.1 t o') : Ext ss a w d r t o' :=
 ⟨h'.t,h'.td,h'.tr,fun x hx=>h'.sd x (h.sd x hx),fun x hx=>h'.sr x (h.sr x hx),h'.od,h'.ro,fun x hx=>by
  rcases h'.good x hx with h1 | h1
  ·rcases h.good x h1 with h2 | h2
   ·exact .inl h2
   ·exact .inr fun k hk=>(h2 k hk).mono h'.sd h'.sr
  ·exact .inr h1,fun k hk=>by
  rcases h'.tch k hk with h1 | h1
  ·rcases h.tch k h1 with h2 | h2
   ·exact .inl h2
   ·exact .inr (h2.mono h'.sd)
  ·exact .inr h1⟩
def miss (w:PW) (d:BM) : Nat:=((keys w.2.1).filter fun x=>!decide (x∈keys d)).length
theorem miss_lt {w:PW}(hn:(keys w.2.1).Nodup){d d':BM}(h:∀ x∈keys d,x∈keys d'){p:Int}(hp:p∈keys w.2.1) (h1:p∉keys d) (h2:p∈keys d') : miss w d' < miss w d:=by
 have hm : p∈(keys w.2.1).filter fun x=>!decide (x∈keys d):=by
  simp only [List.mem_filter,Bool.not_eq_true',decide_eq_false_iff_not]; exact ⟨hp,h1⟩
 have h3 : miss w d'≤(((keys w.2.1).filter fun x=>!decide (x∈keys d)).erase p).length:=by
  refine zBj (hn.filter _) fun x hx=>?_
  simp only [List.mem_filter,Bool.not_eq_true',decide_eq_false_iff_not] at hx
  have hne : x≠p:=fun he=>hx.2 (he ▸ h2)
  rw [List.mem_erase_of_ne hne]
  simp only [List.mem_filter,Bool.not_eq_true',decide_eq_false_iff_not]
  exact ⟨hx.1,fun h4=>hx.2 (h x h4)⟩
 rw [List.length_erase_of_mem hm] at h3
 have:=List.length_pos_of_mem hm
 show miss w d' < ((keys w.2.1).filter fun x=>!decide (x∈keys d)).length
 omega
theorem f98_t {ss:List SortT}(hS:SS ss){B:Int}{w:PW}(h:IW ss B w) (hB:B≤1000000){a:Nat}(ha:WayN a) : ∀ (n:Nat) (p:Int) (d r t:BM),TS d→TS r→(∀ x∈keys d,x∈keys w.2.1)→(∀ x∈keys r,x∈keys w.2.2.1)→p∈keys w.2.1→miss w d < n→Tot (f98 n p d r t w a) fun o=>Ext ss a w d r t o∧p∈keys o.1:=by
 intro n
 induction n with
 | zero=>intro p d r t _ _ _ _ _ hm; omega
 | succ n ih =>
  intro p d r t hd hr hdo hro hp hm
  show Tot (f98_r (f98 n) p d r t w a) _
  unfold f98_r
  refine zAR (fun h1=>zAB ⟨Ext.refl hd hr hdo hro,hd.get.1 h1⟩) (fun h1=>?_)
  have hpd : p∉keys d:=fun h2=>by rw [hd.get.2 h2] at h1; cases h1
  rw [f13_t h hB]
  simp only [Option.bind_some]
  have hlen : (zBT (keys w.2.2.1)).length=w.2.2.1.length:=by rw [zCN,keys,List.length_map]
  rw [zBS]
  have hpo : p∈keys (mset d p true):=zBc.2 (.inl rfl)
  refine (zAq (fun i s=>Ext ss a w (mset d p true) r t s∧∀ j,j < i→Good ss a w ((zBT (keys w.2.2.1)).getD j default) p (keys s.1) (keys s.2.1)) ⟨Ext.refl (hd.set p) hr (fun x hx=>?_) hro,fun j hj=>absurd hj (by omega)⟩ fun i s hi hs=>?_).bind fun o ho=>?_
  ·rcases zBc.1 hx with h2 | h2
   ·subst h2; exact hp
   ·exact hdo x h2
  ·obtain ⟨s9,s10,s11⟩:=s
   obtain ⟨hE,hG⟩:=hs
   have hps : p∈keys s9:=hE.sd p hpo
   have ht : s11=t:=hE.t
   subst ht
   have hstep : Tot ((((ix (zBT (keys w.2.2.1)) (i:Int)).bind fun x24 =>
     (f75 w (((((mget w.2.2.1 x24).getD (0,([] : Str),[]))).2).1)).bind fun x26 =>
     (rng (f98_b1 p w a (f98 n) s9 s11 x24 x26) (Int.toNat (List.length (((((mget w.2.2.1 x24).getD (0,([] : Str),[]))).2).2) : Int)) 0 s10).bind fun o36=>match o36 with
      | .inl s30=>(some (.inl (s9,s30,s11)))
      | .inr (s33,s34,s35)=>(some (.inl (s33,s34,s35)))) : Option ((BM×BM×BM) ⊕ Unit))) fun o=>∃ s',o=.inl s'∧Ext ss a w s9 s10 s11 s'∧Good ss a w ((zBT (keys w.2.2.1)).getD i default) p (keys s'.1) (keys s'.2.1):=by
    refine zA2 hi ?_
    have hk : (zBT (keys w.2.2.1)).getD i default∈keys w.2.2.1:=zBv.1 (zBV hi)
    generalize (zBT (keys w.2.2.1)).getD i default=k at hk ⊢
    have he:=zCR h.rn hk
    obtain ⟨_,_,_,hrel,hob⟩:=h.rk _ he
    show Tot ((f75 w (zBX w k).2.1).bind fun x26=>(rng (f98_b1 p w a (f98 n) s9 s11 k x26) (Int.toNat ((zBX w k).2.2.length : Int)) 0 s10).bind _) _
    rw [f75_for hS h.srt hrel]
    simp only [Option.bind_some]
    rw [zBS]
    have hsl:=(sortFor_rel hS hrel).2.2
    refine (zA1 (fun j r'=>Ext ss a w s9 s10 s11 (s9,r',s11)∧∀ j',j' < j→(zBX w k).2.2.getD j' default=p→zCw ss a (zBX w k).2 j'≠3→zCw ss a (zBX w k).2 j'≠1∧k∈keys r') (fun q=>Ext ss a w s9 s10 s11 q∧Good ss a w k p (keys q.1) (keys q.2.1)) ⟨Ext.refl hE.td hE.tr hE.od hE.ro,fun j hj=>absurd hj (by omega)⟩ fun j r' hj hr'=>?_).bind fun o ho=>?_
    ·obtain ⟨hE',hJ⟩:=hr'
     unfold f98_b1
     have hx : ix (zBX w k).2.2 (j:Int)=some ((zBX w k).2.2.getD j default):=zBW hj
     have hx' : ix (((((mget w.2.2.1 k).getD (0,([] : Str),[]))).2).2) (j:Int)=some ((zBX w k).2.2.getD j default):=hx
     rw [hx']
     simp only [Option.bind_some]
     have hy : ix (zCd ss (zBX w k).2.1).2 (j:Int)=some ((zCd ss (zBX w k).2.1).2.getD j default):=zBW (by rw [hsl]; exact hj)
     rw [hy]
     simp only [Option.bind_some,fdyn_eq ha]
     refine Tot.bind (Q:=fun o=>(∃ s',o=.inl s'∧Ext ss a w s9 s10 s11 (s9,s',s11)∧∀ j',j' < j+1→(zBX w k).2.2.getD j' default=p→zCw ss a (zBX w k).2 j'≠3→zCw ss a (zBX w k).2 j'≠1∧k∈keys s')∨∃ q,o=.inr q∧Ext ss a w s9 s10 s11 q∧Good ss a w k p (keys q.1) (keys q.2.1)) ?_ fun o ho=>?_
     ·refine zAR (fun e1=>zAB (.inl ⟨_,rfl,hE',fun j' hj' h2 h3=>?_⟩)) (fun e1=>?_)
      ·rcases Nat.lt_or_ge j' j with h4 | h4
       ·exact hJ j' h4 h2 h3
       ·have : j'=j:=by omega
        subst this; rw [decide_eq_true h2] at e1; cases e1
      have e1' : (zBX w k).2.2.getD j default=p:=by simpa only [Bool.not_eq_false',decide_eq_true_eq] using e1
      refine zAR (fun e3=>zAB (.inl ⟨_,rfl,hE',fun j' hj' h2 h3=>?_⟩)) (fun e3=>?_)
      ·rcases Nat.lt_or_ge j' j with h4 | h4
       ·exact hJ j' h4 h2 h3
       ·have : j'=j:=by omega
        subst this; exact absurd (of_decide_eq_true e3) h3
      have e3' : zCw ss a (zBX w k).2 j≠3:=of_decide_eq_false e3
      have hE2 : Ext ss a w s9 s10 s11 (s9,mset r' k true,s11):=by
       refine ⟨rfl,hE'.td,hE'.tr.set k,hE'.sd,fun x hx=>zBc.2 (.inr (hE'.sr x hx)),hE'.od,fun x hx=>?_,fun x hx=>.inl hx,fun x hx=>?_⟩
       ·rcases zBc.1 hx with h2 | h2
        ·subst h2; exact hk
        ·exact hE'.ro x h2
       ·rcases zBc.1 hx with h2 | h2
        ·subst h2; exact .inr ⟨j,hj,by rw [e1']; exact hps,e3'⟩
        ·exact hE'.tch x h2
      refine zAR (fun e2=>?_) (fun e2=>zAB (.inl ⟨_,rfl,hE2,fun j' hj' h2 h3=>?_⟩))
      ·rw [zBS]
       refine (zAq (n:=(zBX w k).2.2.length) (fun m q=>Ext ss a w s9 s10 s11 q∧k∈keys q.2.1∧∀ m',m' < m→(zBX w k).2.2.getD m' default∈keys q.1) ⟨hE2,zBc.2 (.inl rfl),fun m hm=>absurd hm (by omega)⟩ fun m q hm' hq=>?_).bind fun o ho=>?_
       ·obtain ⟨q1,q2,q3⟩:=q
        obtain ⟨hQ,hkq,hQm⟩:=hq
        have hq3 : q3=s11:=hQ.t
        subst hq3
        unfold f98_b2
        have hz : ix (((((mget w.2.2.1 k).getD (0,([] : Str),[]))).2).2) (m:Int)=some ((zBX w k).2.2.getD m default):=zBW hm'
        rw [hz]
        simp only [Option.bind_some]
        have hlt : miss w q1 < n:=by
         have h5 : miss w q1 < miss w d:=miss_lt h.on (fun x hx=>hQ.sd x (hE.sd x (zBc.2 (.inr hx)))) hp hpd (hQ.sd p hps)
         omega
        refine (ih _ q1 q2 q3 hQ.td hQ.tr hQ.od hQ.ro (hob _ (zBV hm')) hlt).bind fun o ho=>?_
        refine zAB ⟨_,rfl,hQ.trans ho.1,ho.1.sr k hkq,fun m' hm''=>?_⟩
        rcases Nat.lt_or_ge m' m with h4 | h4
        ·exact ho.1.sd _ (hQm m' h4)
        ·have : m'=m:=by omega
         subst this; exact ho.2
       ·obtain ⟨⟨q1,q2,q3⟩,rfl,hQ,hkq,hQm⟩:=ho
        refine zAB (.inr ⟨_,rfl,hQ,fun i hi h5 h6=>⟨hkq,fun _ o ho=>?_⟩⟩)
        obtain ⟨m,hm,rfl⟩:=zB4 default ho
        exact hQm m hm
      ·rcases Nat.lt_or_ge j' j with h4 | h4
       ·have h5:=hJ j' h4 h2 h3
        exact ⟨h5.1,zBc.2 (.inr h5.2)⟩
       ·have : j'=j:=by omega
        subst this
        exact ⟨of_decide_eq_false e2,zBc.2 (.inl rfl)⟩
     ·rcases ho with ⟨s',rfl,h2⟩ | ⟨⟨q1,q2,q3⟩,rfl,h2⟩
      ·exact zAB (.inl ⟨_,rfl,h2⟩)
      ·exact zAB (.inr ⟨_,rfl,h2⟩)
    ·rcases ho with ⟨s',rfl,h2,h3⟩ | ⟨⟨q1,q2,q3⟩,rfl,h2⟩
     ·refine zAB ⟨_,rfl,h2,fun i hi h4 h5=>?_⟩
      have h6:=h3 i hi h4 h5
      exact ⟨h6.2,fun h7=>absurd h7 h6.1⟩
     ·exact zAB ⟨_,rfl,h2⟩
   unfold f98_b0
   refine hstep.bind fun o ho=>?_
   obtain ⟨⟨q1,q2,q3⟩,rfl,h2,h3⟩:=ho
   refine zAB ⟨_,rfl,hE.trans h2,fun j hj=>?_⟩
   rcases Nat.lt_or_ge j i with h4 | h4
   ·exact (hG j h4).mono h2.sd h2.sr
   ·have : j=i:=by omega
    subst this; exact h3
  ·obtain ⟨⟨q1,q2,q3⟩,rfl,h2,h3⟩:=ho
   refine zAB ⟨⟨h2.t,h2.td,h2.tr,fun x hx=>h2.sd x (zBc.2 (.inr hx)),h2.sr,h2.od,h2.ro,fun x hx=>?_,h2.tch⟩,h2.sd p hpo⟩
   rcases h2.good x hx with h4 | h4
   ·rcases zBc.1 h4 with h5 | h5
    ·subst h5
     refine .inr fun k hk=>?_
     obtain ⟨j,hj,rfl⟩:=zB4 default (zBv.2 hk)
     exact h3 j hj
    ·exact .inl h5
   ·exact .inr h4
theorem tot_mfold {S α R:Type}{g:S→α→Option (S ⊕ R)}(Inv:S→Prop) (P:S→α→Prop) : ∀ {l:List α}(h:∀ s e,e∈l→Inv s→Tot (g s e) fun o=>∃ s',o=.inl s'∧Inv s'∧P s' e∧∀ e',P s e'→P s' e'){s0:S}(h0:Inv s0),Tot (zBu g s0 l) fun o=>∃ s,o=.inl s∧Inv s∧(∀ e∈l,P s e)∧∀ e',P s0 e'→P s e':=by
 intro l
 induction l with
 | nil=>intro h s0 h0; exact ⟨_,rfl,s0,rfl,h0,fun e he=>by simp at he,fun e' h1=>h1⟩
 | cons e l ih =>
  intro h s0 h0
  refine (h s0 e (by simp) h0).bind fun o ho=>?_
  obtain ⟨s',rfl,h1,h2,h3⟩:=ho
  refine (ih (fun s e he hs=>h s e (List.mem_cons_of_mem _ he) hs) h1).mono fun o ho=>?_
  obtain ⟨s,rfl,h4,h5,h6⟩:=ho
  refine ⟨s,rfl,h4,fun e' he'=>?_,fun e' he'=>h6 e' (h3 e' he')⟩
  rcases List.mem_cons.1 he' with h7 | h7
  ·subst h7; exact h6 _ h2
  ·exact h5 e' h7
structure Acts (ss:List SortT) (a:Nat) (w:PW) (p:Int) (o:BM×BM×BM) : Prop where
 td : TS o.1
 tr : TS o.2.1
 tt : TS o.2.2
 od : ∀ x∈keys o.1,x∈keys w.2.1
 ro : ∀ x∈keys o.2.1,x∈keys w.2.2.1
 ot : ∀ x∈keys o.2.2,x∈keys w.2.1
 pd : p∈keys o.1
 good : ∀ x∈keys o.1,∀ k∈keys w.2.2.1,Good ss a w k x (keys o.1) (keys o.2.1)
 tch : ∀ k∈keys o.2.1,Touch ss a w k (keys o.1)
 tou : ∀ k∈keys o.2.1,∀ x∈(zBX w k).2.2,x∈keys o.1∨x∈keys o.2.2
theorem wayN_of {z:Int}(h1:1≤z) (h3:z≤3) : ∃ a,ix ([94,95,96] : List Nat) (w64 (z - 1))=some a∧WayN a∧(a:Int)=93+z:=by
 have : z=1∨z=2∨z=3:=by omega
 rcases this with h | h | h <;> subst h
 ·exact ⟨94,by decide,.inl rfl,rfl⟩
 ·exact ⟨95,by decide,.inr (.inl rfl),rfl⟩
 ·exact ⟨96,by decide,.inr (.inr rfl),rfl⟩
theorem f51_t {ss:List SortT}(hS:SS ss){B:Int}{w:PW}(h:IW ss B w) (hB:B≤1000000){p z:Int}(hp:p∈keys w.2.1) (h1:1≤z) (h3:z≤3) : Tot (f51 w p z) fun o=>∃ a,WayN a∧(a:Int)=93+z∧Acts ss a w p o:=by
 obtain ⟨a,hx,ha,haz⟩:=wayN_of h1 h3
 unfold f51
 refine (zBN (show f49=some () from rfl)).bind fun _ _=>?_
 rw [hx]
 simp only [Option.bind_some]
 have hm : miss w [] < 10000:=by
  have h4 : miss w []≤(keys w.2.1).length:=List.length_filter_le _ _
  have:=h.ol
  rw [keys,List.length_map] at h4; omega
 refine (f98_t hS h hB ha 10000 p [] [] [] TS.nil TS.nil (fun x hx=>by simp [keys] at hx) (fun x hx=>by simp [keys] at hx) hp hm).bind fun x8 hx8=>?_
 obtain ⟨d,r,t⟩:=x8
 obtain ⟨hE,hpd⟩:=hx8
 have ht : t=[]:=hE.t
 subst ht
 refine (tot_mfold (fun t:BM=>TS t∧∀ x∈keys t,x∈keys w.2.1) (fun t e=>∀ x∈(zBX w e.1).2.2,x∈keys d∨x∈keys t) (fun s e he hs=>?_) ⟨TS.nil,fun x hx=>by simp [keys] at hx⟩).bind fun o ho=>?_
 ·have hek : e.1∈keys r:=List.mem_map.2 ⟨e,he,rfl⟩
  have hrel:=zCR h.rn (hE.ro _ hek)
  have hob:=(h.rk _ hrel).2.2.2.2
  unfold f51_m0
  rw [zBS]
  refine (zAq (n:=(zBX w e.1).2.2.length) (fun i s'=>(TS s'∧∀ x∈keys s',x∈keys w.2.1)∧(∀ x∈keys s,x∈keys s')∧∀ j,j < i→(zBX w e.1).2.2.getD j default∈keys d∨(zBX w e.1).2.2.getD j default∈keys s') ⟨hs,fun x hx=>hx,fun j hj=>absurd hj (by omega)⟩ fun i s' hi hs'=>?_).bind fun o ho=>?_
  ·unfold f51_b1
   have hz : ix (((((mget w.2.2.1 e.1).getD (0,([] : Str),[]))).2).2) (i:Int)=some ((zBX w e.1).2.2.getD i default):=zBW hi
   rw [hz]
   simp only [Option.bind_some]
   obtain ⟨⟨h4,h5⟩,h6,h7⟩:=hs'
   refine Tot.bind (Q:=fun o=>∃ s'',o=.inl s''∧((TS s''∧∀ x∈keys s'',x∈keys w.2.1)∧(∀ x∈keys s,x∈keys s'')∧∀ j,j < i+1→(zBX w e.1).2.2.getD j default∈keys d∨(zBX w e.1).2.2.getD j default∈keys s'')) ?_ fun o ho=>?_
   ·refine zAR (fun h8=>zAB ⟨_,rfl,⟨h4.set _,fun x hx=>?_⟩,fun x hx=>zBc.2 (.inr (h6 x hx)),fun j hj=>?_⟩) (fun h8=>zAB ⟨_,rfl,⟨h4,h5⟩,h6,fun j hj=>?_⟩)
    ·rcases zBc.1 hx with h9 | h9
     ·subst h9; exact hob _ (zBV hi)
     ·exact h5 x h9
    ·rcases Nat.lt_or_ge j i with h9 | h9
     ·rcases h7 j h9 with h10 | h10
      ·exact .inl h10
      ·exact .inr (zBc.2 (.inr h10))
     ·have : j=i:=by omega
      subst this; exact .inr (zBc.2 (.inl rfl))
    ·rcases Nat.lt_or_ge j i with h9 | h9
     ·exact h7 j h9
     ·have : j=i:=by omega
      subst this
      refine .inl (hE.td.get.1 ?_)
      simpa only [Bool.not_eq_false'] using h8
   ·obtain ⟨s'',rfl,h8⟩:=ho
    exact zAB ⟨_,rfl,h8⟩
  ·obtain ⟨s',rfl,h4,h5,h6⟩:=ho
   refine zAB ⟨_,rfl,h4,fun x hx=>?_,fun e' he' x hx=>?_⟩
   ·obtain ⟨j,hj,rfl⟩:=zB4 default hx
    exact h6 j hj
   ·rcases he' x hx with h7 | h7
    ·exact .inl h7
    ·exact .inr (h5 x h7)
 ·obtain ⟨t,rfl,h4,h5,_⟩:=ho
  refine zAB ⟨a,ha,haz,⟨hE.td,hE.tr,h4.1,hE.od,hE.ro,h4.2,hpd,fun x hx=>?_,fun k hk=>?_,fun k hk=>?_⟩⟩
  ·rcases hE.good x hx with h6 | h6
   ·simp [keys] at h6
   ·exact h6
  ·rcases hE.tch k hk with h6 | h6
   ·simp [keys] at h6
   ·exact h6
  ·obtain ⟨e,he,rfl⟩:=List.mem_map.1 hk
   exact h5 e he
theorem f52_eq {d:BM}{B:Int}(hd:TS d) (hk:∀ x∈keys d,1≤x∧x < B) (hB:B≤1000000) : f52 d=some (zBT (keys d)):=by
 unfold f52
 simp only [zBs,Option.bind_some]
 rw [skeys_t hd.1 hk (by omega)]; rfl
theorem f12_t {ss:List SortT}(hS:SS ss){B:Int}{w:PW}(h:IW ss B w) (hB:B≤1000000) (p z:Int) : Tot (f12 w p z) fun r=>r.2.2.2=0→∃ a o,1≤z∧z≤3∧WayN a∧(a:Int)=93+z∧Acts ss a w p o∧r=(zBT (keys o.1),zBT (keys o.2.1),zBT (keys o.2.2),0):=by
 unfold f12
 refine zAi (by simp [f49]) (zAR (fun _=>zAB fun h0=>absurd h0 (by decide)) (fun hz=>?_))
 simp only [Bool.or_eq_false_iff,decide_eq_false_iff_not] at hz
 refine (f50_t w [p]).bind fun x3 hx=>?_
 refine zAR (fun h0=>zAB fun h1=>?_) (fun h0=>?_)
 ·simp only [Bool.not_eq_true',decide_eq_false_iff_not] at h0; exact absurd h1 h0
 ·have h0' : x3=0:=by simpa using h0
  have hp : p∈keys w.2.1:=by
   rcases hx with ⟨h2,_⟩ | ⟨h2,_⟩ | ⟨_,_,h2⟩
   ·omega
   ·omega
   ·exact h2 p (by simp)
  refine (f51_t hS h hB hp (by omega) (by omega)).bind fun o ho=>?_
  obtain ⟨a,ha,haz,hA⟩:=ho
  have hn:=h.no; have hr:=h.nr
  rw [f52_eq hA.td (fun x hx=>h.ok x (hA.od x hx)) (by omega),f52_eq hA.tr (fun x hx=>h.rkey x (hA.ro x hx)) (by omega),f52_eq hA.tt (fun x hx=>h.ok x (hA.ot x hx)) (by omega)]
  exact zAB fun _=>⟨a,o,by omega,by omega,ha,haz,hA,rfl⟩
theorem f58_t (w:PW) (p v:Int) : Tot (f58 w p v) fun r=>r=0→p∈keys w.2.1:=by
 unfold f58
 rw [f72_eq]
 simp only [Option.bind_some]
 refine zAR (fun _=>zAB fun h=>absurd h (by decide)) (fun _=>?_)
 refine (f50_t w [p]).bind fun r hr=>zAB fun h0=>?_
 rcases hr with ⟨h2,_⟩ | ⟨h2,_⟩ | ⟨_,_,h2⟩
 ·omega
 ·omega
 ·exact h2 p (by simp)
theorem IW.setO {ss:List SortT}{B:Int}{w:PW}(h:IW ss B w){k:Int}(hk:k∈keys w.2.1){v:Int×Int×Str}(hv:v.1=k∧v.2.2.length≤1000) : IW ss B (w.1,mset w.2.1 k v,w.2.2.1,w.2.2.2.1,w.2.2.2.2)∧keys (mset w.2.1 k v)=keys w.2.1:=by
 have he : keys (mset w.2.1 k v)=keys w.2.1:=(mset_keys _ _ _).trans (if_pos hk)
 refine ⟨⟨h.srt,?_,?_,?_,h.rn,?_,h.no,h.nr,fun e he=>?_⟩,he⟩
 ·show (keys (mset w.2.1 k v)).Nodup; rw [he]; exact h.on
 ·show ∀ q∈keys (mset w.2.1 k v),_; rw [he]; exact h.ok
 ·show (mset w.2.1 k v).length≤500; rw [mset_length_in hk]; exact h.ol
 ·show ∀ e∈w.2.2.1,_∧_∧_∧_∧∀ o∈e.2.2.2,o∈keys (mset w.2.1 k v); rw [he]; exact h.rk
 ·rcases mset_mem he with h1 | h1
  ·subst h1; exact hv
  ·exact h.ot e h1
def objAt (w:PW) (k:Int) : Int×Int×Str:=(mget w.2.1 k).getD (0,0,([] : Str))
theorem objAt_of {w:PW}{k:Int}(hk:k∈keys w.2.1) : (k,objAt w k)∈w.2.1:=by
 have h:=zBk.1 hk
 obtain ⟨v,hv⟩:=Option.isSome_iff_exists.1 h
 rw [objAt,hv]; exact mget_mem hv
theorem f43_t {ss:List SortT}(hS:SS ss){B:Int}{w:PW}(h:IW ss B w) (hB:B≤1000000) (p v:Int) : Tot (f43 w p v) fun r=>IW ss B r.2.2∧r.2.2.2.2.1=w.2.2.1∧keys r.2.2.2.1=keys w.2.1:=by
 unfold f43
 refine (f58_t w p v).bind fun x2 hx=>?_
 refine zAR (fun _=>zAB ⟨h,rfl,rfl⟩) (fun h0=>?_)
 have hp:=hx (by simpa using h0)
 refine (f51_t hS h hB hp (z:=2) (by omega) (by omega)).bind fun o ho=>?_
 obtain ⟨a,ha,haz,hA⟩:=ho
 have hn:=h.no
 rw [f52_eq hA.td (fun x hx=>h.ok x (hA.od x hx)) (by omega)]
 simp only [Option.bind_some]
 rw [zBS]
 refine (zAq (fun i (s:PW)=>IW ss B s∧s.2.2.1=w.2.2.1∧keys s.2.1=keys w.2.1) ⟨h,rfl,rfl⟩ fun i s hi hs=>?_).bind fun o ho=>?_
 ·unfold f43_b0
  refine zA2 hi ?_
  have hk : (zBT (keys o.1)).getD i default∈keys s.2.1:=by rw [hs.2.2]; exact hA.od _ (zBv.1 (zBV hi))
  have h4:=fun (v:Int×Int×Str) hv=>hs.1.setO hk (v:=v) hv
  have h5:=hs.1.ot _ (objAt_of hk)
  have h6:=h4 ((objAt s ((zBT (keys o.1)).getD i default)).1,v,(objAt s ((zBT (keys o.1)).getD i default)).2.2) h5
  exact zAB ⟨_,rfl,h6.1,hs.2.1,by rw [← hs.2.2]; exact h6.2⟩
 ·obtain ⟨s,rfl,h4⟩:=ho
  exact zAB h4
theorem del_t {β:Type}{x:List (Int×β)}(hn:(keys x).Nodup) (f:Int→Bool){q:Int→β→Option Bool}(hq:∀ e∈x,q e.1 e.2=some (f e.1)){g:List (Int×β)→Int×β→Option (List (Int×β) ⊕ Unit)}(hg:∀ s p,g s p=(q p.1 p.2).bind fun b=>bif b then some (.inl (mdel s p.1)) else some (.inl s)) : Tot (zBu g x x) fun o=>∃ y,o=.inl y∧(keys y).Nodup∧(∀ e∈y,e∈x∧f e.1=false)∧∀ e∈x,f e.1=false→e∈y:=by
 refine (tot_mfold (fun s:List (Int×β)=>(keys s).Nodup∧(∀ e∈s,e∈x)∧∀ e∈x,f e.1=false→e∈s) (fun s e=>f e.1=true→e.1∉keys s) (fun s e he hs=>?_) ⟨hn,fun e he=>he,fun e he _=>he⟩).mono fun o ho=>?_
 ·rw [hg,hq e he]
  simp only [Option.bind_some]
  refine zAR (fun h1=>zAB ⟨_,rfl,⟨zCC _ hs.1,fun e' he'=>hs.2.1 e' ((zCo hs.1).1 he').1,fun e' he' hf=>(zCo hs.1).2 ⟨hs.2.2 e' he' hf,fun h2=>?_⟩⟩,fun _ h2=>?_,fun e' h2 h3 h4=>?_⟩) (fun h1=>zAB ⟨_,rfl,hs,fun h2=>?_,fun e' h2=>h2⟩)
  ·rw [h2,h1] at hf; cases hf
  ·obtain ⟨e',he',h3⟩:=List.mem_map.1 h2
   exact ((zCo hs.1).1 he').2 h3
  ·obtain ⟨e'',he'',h5⟩:=List.mem_map.1 h4
   exact h2 h3 (List.mem_map.2 ⟨e'',((zCo hs.1).1 he'').1,h5⟩)
  ·rw [h1] at h2; cases h2
 ·obtain ⟨s,rfl,h1,h2,_⟩:=ho
  refine ⟨s,rfl,h1.1,fun e he=>⟨h1.2.1 e he,?_⟩,h1.2.2⟩
  rw [Bool.eq_false_iff]
  exact fun h3=>h2 e (h1.2.1 e he) h3 (List.mem_map.2 ⟨e,he,rfl⟩)
theorem f20_t {ss:List SortT}(hS:SS ss){B:Int}{w:PW}(h:IW ss B w) (hB:B≤1000000) (p:Int) : Tot (f20 w p) fun r=>IW ss B r.2.2.2∧r.2.2.2.2.2.1.length≤w.2.2.1.length∧(∀ e∈r.2.2.2.2.2.1,e∈w.2.2.1)∧∃ x2,f50 w [p]=some x2∧r.2.2.1=x2∧(x2≠0→r.1=[]∧r.2.2.2=w)∧(x2=0→∃ x5,f51 w p 3=some x5∧r.1=zBT (keys x5.1)∧∀ k∈keys r.2.2.2.2.1,k∉keys x5.1):=by
 unfold f20
 obtain ⟨x2,hx2,hx⟩:=f57_t w [p]
 have hx2' : f50 w [p]=some x2:=by
  unfold f57 at hx2
  cases hc : f50 w [p] with
  | none=>rw [hc] at hx2; cases hx2
  | some v=>rw [hc] at hx2; exact hx2
 rw [hx2]
 simp only [Option.bind_some]
 refine zAR (fun h0=>zAB ⟨h,Nat.le_refl _,fun e he=>he,x2,hx2',rfl,fun _=>⟨rfl,rfl⟩,fun h1=>by subst h1; simp at h0⟩) (fun h0=>?_)
 have h0' : x2=0:=by simpa using h0
 have hp : p∈keys w.2.1:=by
  rcases hx with ⟨h2,_⟩ | ⟨h2,_⟩ | ⟨_,_,h2⟩
  ·omega
  ·omega
  ·exact h2 p (by simp)
 obtain ⟨x5,hx5,a,ha,haz,hA⟩:=f51_t hS h hB hp (z:=3) (by omega) (by omega)
 rw [hx5]
 simp only [Option.bind_some]
 have hn:=h.no
 have hr:=h.nr
 refine (tot_mfold (fun s:BM=>TS s∧∀ k∈keys s,k∈keys w.2.2.1) (fun s e=>(∃ o∈e.2.2.2,o∈keys x5.1)→e.1∈keys s) (fun s e he hs=>?_) ⟨hA.tr,hA.ro⟩).bind fun o ho=>?_
 ·unfold f20_m0
  rw [f66_eq (q:=fun y1=>f67 y1 (x5.1,s,x5.2.2)) (fun y=>(mget x5.1 y).getD false) (fun y _=>rfl)]
  simp only [Option.bind_some]
  refine zAR (fun h1=>zAB ⟨_,rfl,⟨hs.1.set _,fun k hk=>?_⟩,fun _=>zBc.2 (.inl rfl),fun e' h2 h3=>zBc.2 (.inr (h2 h3))⟩) (fun h1=>zAB ⟨_,rfl,hs,fun h2=>?_,fun e' h2=>h2⟩)
  ·rcases zBc.1 hk with h2 | h2
   ·subst h2; exact List.mem_map.2 ⟨e,he,rfl⟩
   ·exact hs.2 k h2
  ·obtain ⟨y,hy,h3⟩:=h2
   exact absurd (hA.td.get.2 h3) (List.any_eq_false.1 h1 y hy)
 ·obtain ⟨s,rfl,h1,h2,_⟩:=ho
  have e1 : Tot (f68 w.2.2.1 (fun y1 y2=>f69 y1 y2 (x5.1,s,x5.2.2))) fun y=>(keys y).Nodup∧(∀ e∈y,e∈w.2.2.1∧(mget s e.1).getD false=false)∧∀ e∈w.2.2.1,(mget s e.1).getD false=false→e∈y:=by
   unfold f68
   refine (del_t h.rn (fun k=>(mget s k).getD false) (q:=fun y1 y2=>f69 y1 y2 (x5.1,s,x5.2.2)) (g:=f68_m0 fun y1 y2=>f69 y1 y2 (x5.1,s,x5.2.2)) (fun e _=>rfl) (fun s p=>rfl)).bind fun o ho=>?_
   obtain ⟨y,rfl,h3⟩:=ho
   exact zAB h3
  have e2 : Tot (f70 w.2.1 (fun y1 y2=>f71 y1 y2 (x5.1,s,x5.2.2))) fun y=>(keys y).Nodup∧(∀ e∈y,e∈w.2.1∧(mget x5.1 e.1).getD false=false)∧∀ e∈w.2.1,(mget x5.1 e.1).getD false=false→e∈y:=by
   unfold f70
   refine (del_t h.on (fun k=>(mget x5.1 k).getD false) (q:=fun y1 y2=>f71 y1 y2 (x5.1,s,x5.2.2)) (g:=f70_m0 fun y1 y2=>f71 y1 y2 (x5.1,s,x5.2.2)) (fun e _=>rfl) (fun s p=>rfl)).bind fun o ho=>?_
   obtain ⟨y,rfl,h3⟩:=ho
   exact zAB h3
  refine e1.bind fun x15 h15=>?_
  refine e2.bind fun x17 h17=>?_
  rw [f52_eq hA.td (fun x hx=>h.ok x (hA.od x hx)) (by omega),f52_eq h1.1 (fun x hx=>h.rkey x (h1.2 x hx)) (by omega)]
  have hl15 : x15.length≤w.2.2.1.length:=by
   have h3:=zBj (m:=keys w.2.2.1) h15.1 fun x hx=>by
    obtain ⟨e,he,rfl⟩:=List.mem_map.1 hx
    exact List.mem_map.2 ⟨e,(h15.2.1 e he).1,rfl⟩
   simpa only [keys,List.length_map] using h3
  have hl17 : x17.length≤w.2.1.length:=by
   have h3:=zBj (m:=keys w.2.1) h17.1 fun x hx=>by
    obtain ⟨e,he,rfl⟩:=List.mem_map.1 hx
    exact List.mem_map.2 ⟨e,(h17.2.1 e he).1,rfl⟩
   simpa only [keys,List.length_map] using h3
  refine zAB ⟨⟨h.srt,h17.1,fun k hk=>?_,Nat.le_trans hl17 h.ol,h15.1,fun e he=>?_,h.no,h.nr,fun e he=>h.ot e (h17.2.1 e he).1⟩,hl15,fun e he=>(h15.2.1 e he).1,x2,hx2',h0'.symm,fun h3=>absurd h0' h3,fun _=>⟨x5,rfl,rfl,fun k hk=>?_⟩⟩
  rotate_left 2
  ·obtain ⟨e,he,rfl⟩:=List.mem_map.1 hk
   intro h3
   have h4:=(h17.2.1 e he).2
   rw [hA.td.get.2 h3] at h4; cases h4
  ·obtain ⟨e,he,rfl⟩:=List.mem_map.1 hk
   exact h.ok _ (List.mem_map.2 ⟨e,(h17.2.1 e he).1,rfl⟩)
  ·obtain ⟨h3,h4⟩:=h15.2.1 e he
   obtain ⟨h5,h6,h7,h8,h9⟩:=h.rk e h3
   refine ⟨h5,h6,h7,h8,fun o ho=>?_⟩
   obtain ⟨e',he',h10⟩:=List.mem_map.1 (h9 o ho)
   refine List.mem_map.2 ⟨e',h17.2.2 e' he' ?_,h10⟩
   rw [Bool.eq_false_iff]
   intro h11
   have h12:=hA.td.get.1 h11
   rw [h10] at h12
   have h13:=h2 e h3 ⟨o,ho,h12⟩
   rw [h1.1.get.2 h13] at h4; cases h4
theorem f61_two (a b:Int) : f61 [a,b]=some (if a≠0 then a else if b≠0 then b else 0):=by
 by_cases h1 : a=0
 ·by_cases h2 : b=0
  ·subst h1; subst h2; rfl
  ·subst h1
   simp [f61,f61_b0,rng,ix,h2]
 ·simp [f61,f61_b0,rng,ix,h1]
theorem f59_eq (w:PW) : f59 w=some w:=by obtain ⟨a,b,c,d,e⟩:=w; rfl
theorem mset_fresh {α β:Type} [DecidableEq α] : ∀ {x:List (α×β)}{k:α}{v:β},k∉x.map (·.1)→mset x k v=x++[(k,v)]:=by
 intro x
 induction x with
 | nil=>intro k v _; rfl
 | cons p x ih =>
  intro k v h
  obtain ⟨a,b⟩:=p
  simp only [List.map_cons,List.mem_cons,not_or] at h
  simp only [mset,if_neg h.1,ih h.2,List.cons_append]
theorem mget_append_fresh {α β:Type} [DecidableEq α] : ∀ {x:List (α×β)}{k:α}{v:β},k∉x.map (·.1)→mget (x++[(k,v)]) k=some v:=by
 intro x
 induction x with
 | nil=>intro k v _; simp [mget]
 | cons p x ih =>
  intro k v h
  obtain ⟨a,b⟩:=p
  simp only [List.map_cons,List.mem_cons,not_or] at h
  simp only [List.cons_append,mget,if_neg h.1,ih h.2]
theorem nodup_take {α:Type} [Inhabited α] {l:List α}(h:l.Nodup){i:Nat}(hi:i < l.length) : l.getD i default∉l.take i:=by
 have h9:=h
 rw [← List.take_append_drop (i+1) l,zCx default hi,List.nodup_append] at h9
 have h10:=h9.1
 rw [List.nodup_append] at h10
 exact fun hm=>h10.2.2 _ hm _ (by simp) rfl
def toOf (l:List (Int×Int)) (x:Int) : Int:=(mget l x).getD x
structure Copied (ss:List SortT) (w:PW) (p v:Int) (r1 r2:List (Int×Int)) (w':PW) (o:BM×BM×BM) : Prop where
 f : f51 w p 1=some o
 a : Acts ss 94 w p o
 po : p∈keys w.2.1
 k1 : r1.map (·.1)=zBT (keys o.1)
 k2 : r2.map (·.1)=zBT (keys o.2.1)
 o1 : ∀ k∈keys w.2.1,mget w'.2.1 k=mget w.2.1 k
 o2 : ∀ q∈r1,mget w'.2.1 q.2=some (q.2,v,(objAt w q.1).2.2)∧q.2∉keys w.2.1
 t1 : ∀ k∈keys w.2.2.1,mget w'.2.2.1 k=mget w.2.2.1 k
 t2 : ∀ q∈r2,mget w'.2.2.1 q.2=some (q.2,(zBX w q.1).2.1,(zBX w q.1).2.2.map (toOf r1))
theorem f23_some {ss:List SortT}{B:Int}{w:PW}(h:IW ss B w) (hl:¬ (w.2.1.length : Int)=500){v:Int}(hv:f72 v=some true){t:Str}(ht:t.length≤1000) : f23 w v t=some (w.2.2.2.1,0,(w.1,mset w.2.1 w.2.2.2.1 (w.2.2.2.1,v,t),w.2.2.1,w64 (w.2.2.2.1+1),w.2.2.2.2)):=by
 unfold f23
 rw [hv,decide_eq_false hl,decide_eq_false (show ¬ (1000:Int) < (t.length : Int) by omega)]
 rfl
theorem f18_x {ss:List SortT}(hS:SS ss){B:Int}{w:PW}(h:IW ss B w) (hB:B≤900000) (hc:w.2.2.1.length≤1000) (p v:Int) : Tot (f18 w p v) fun r=>IW ss (B+1500) r.2.2.2∧r.2.2.2.2.2.1.length≤1000∧(MX ss w.2.2.1→MX ss r.2.2.2.2.2.1)∧((r.2.2.1≠0∧(r.2.2.1=9∨r.2.2.1=7∨r.2.2.1=4∨f50 w [p]=some r.2.2.1))∨(r.2.2.1=0∧f50 w [p]=some 0∧∃ o,Copied ss w p v r.1 r.2.1 r.2.2.2 o)):=by
 have hm:=h.mono (C:=B+1500) (by omega)
 unfold f18
 have h58 : Tot (f58 w p v) fun x=>(x=7∨(f72 v=some true∧f50 w [p]=some x)):=by
  unfold f58
  rw [f72_eq]
  simp only [Option.bind_some]
  refine zAR (fun _=>zAB (.inl rfl)) (fun h1=>?_)
  obtain ⟨x,hx,_⟩:=f50_t w [p]
  rw [hx]
  exact zAB (.inr ⟨by rw [show (decide (0≤v)&&decide (v≤1000))=true by simpa using h1],rfl⟩)
 refine h58.bind fun x2 hx=>?_
 refine zAR (fun h0=>zAB ⟨hm,hc,fun h=>h,.inl ⟨by simpa using h0,?_⟩⟩) (fun h0=>?_)
 ·rcases hx with rfl | ⟨_,hx⟩
  ·exact .inr (.inl rfl)
  ·exact .inr (.inr (.inr hx))
 have h0' : x2=0:=by simpa using h0
 subst h0'
 obtain ⟨hv,hf⟩ : f72 v=some true∧f50 w [p]=some 0:=by
  rcases hx with h1 | h1
  ·cases h1
  ·exact h1
 have hp : p∈keys w.2.1:=by
  obtain ⟨x,hx,h1⟩:=f50_t w [p]
  rw [hf] at hx
  cases hx
  rcases h1 with ⟨h2,_⟩ | ⟨h2,_⟩ | ⟨_,_,h2⟩
  ·cases h2
  ·cases h2
  ·exact h2 p (by simp)
 obtain ⟨o,ho,a,ha,haz,hA⟩:=f51_t hS h (by omega) hp (z:=1) (by omega) (by omega)
 obtain rfl : a=94:=by omega
 rw [ho]
 simp only [Option.bind_some]
 have hn:=h.no
 have hnr:=h.nr
 rw [f59_eq,f52_eq hA.td (fun x hx=>h.ok x (hA.od x hx)) (by omega)]
 simp only [Option.bind_some]
 have hD : (zBT (keys o.1)).length≤500:=by
  rw [zCN]
  have h3:=zBj (m:=keys w.2.1) hA.td.1 hA.od
  have:=h.ol
  rw [keys,keys,List.length_map,List.length_map] at h3
  rw [keys,List.length_map]; omega
 have hDn : (zBT (keys o.1)).Nodup:=(zBw _).nodup_iff.2 hA.td.1
 rw [zBS]
 refine (zA1 (fun i (s:PW×(List (Int×Int))×(List (Int×Int)))=>IW ss (B+i) s.1∧s.1.2.2.1=w.2.2.1∧s.2.1=s.2.2∧s.2.2.map (·.1)=(zBT (keys o.1)).take i∧(∀ k∈keys w.2.1,mget s.1.2.1 k=mget w.2.1 k)∧∀ q∈s.2.2,mget s.1.2.1 q.2=some (q.2,v,(objAt w q.1).2.2)∧q.2∉keys w.2.1∧q.2≠0) (fun _=>True) ⟨by simpa using h,rfl,rfl,by simp,fun k hk=>rfl,fun q hq=>by simp at hq⟩ fun i s hi hs=>?_).bind fun q hq=>?_
 ·obtain ⟨s13,s14,s15⟩:=s
  obtain ⟨h1,h2,h3,h4,h5,h6⟩:=hs
  simp only at h1 h2 h3 h4 h5 h6
  subst h3
  have hl15 : s14.length=i:=by
   have:=congrArg List.length h4
   rw [List.length_map,List.length_take] at this; omega
  unfold f18_b0
  refine zA2 hi ?_
  refine zAR (fun _=>zAB (.inr ⟨_,rfl,trivial⟩)) (fun hl=>?_)
  have hko : (zBT (keys o.1)).getD i default∈keys w.2.1:=hA.od _ (zBv.1 (zBV hi))
  have hfr : (zBT (keys o.1)).getD i default∉s14.map (·.1):=by
   rw [h4]
   exact nodup_take hDn hi
  have htk : (zBT (keys o.1)).take (i+1)=(zBT (keys o.1)).take i++[(zBT (keys o.1)).getD i default]:=zCx default hi
  generalize (zBT (keys o.1)).getD i default=k at hko hfr htk ⊢
  have hob : (((mget s13.2.1 k).getD (0,0,([] : Str))).2).2=(objAt w k).2.2:=by rw [h5 k hko]; rfl
  rw [hob]
  have htx:=(h.ot _ (objAt_of hko)).2
  simp only at htx
  rw [f23_some h1 (of_decide_eq_false hl) hv htx]
  simp only [Option.bind_some]
  rw [mset_fresh hfr,mget_append_fresh hfr]
  have hno : s13.2.2.2.1∉keys s13.2.1:=fun hk=>by have:=h1.ok _ hk; omega
  have hadd:=h1.addO (by omega) (v:=(s13.2.2.2.1,v,(objAt w k).2.2)) (by have:=of_decide_eq_false hl; omega) ⟨rfl,htx⟩
  have hsub : ∀ k∈keys w.2.1,k∈keys s13.2.1:=fun k hk=>zBk.2 (by rw [h5 k hk]; exact zBk.1 hk)
  have hnw : s13.2.2.2.1∉keys w.2.1:=fun hk=>hno (hsub _ hk)
  refine zAi (zBf (by rw [List.length_singleton]; omega)) (zAB (.inl ⟨_,rfl,?_,h2,rfl,?_,fun k' hk'=>?_,fun q hq=>?_⟩))
  ·have : B+((i+1 : Nat) : Int)=B+(i:Int)+1:=by omega
   rw [this]; exact hadd
  ·simp only [List.map_append,h4,htk]; rfl
  ·show mget (mset s13.2.1 s13.2.2.2.1 _) k'=_
   rw [zC1,if_neg (show ¬ k'=s13.2.2.2.1 from fun he=>hnw (he ▸ hk'))]; exact h5 k' hk'
  ·rcases List.mem_append.1 hq with h7 | h7
   ·obtain ⟨h8,h9,h10⟩:=h6 q h7
    refine ⟨?_,h9,h10⟩
    show mget (mset s13.2.1 s13.2.2.2.1 _) q.2=_
    rw [zC1,if_neg (show ¬ q.2=s13.2.2.2.1 from fun he=>hno (he ▸ zBk.2 (by rw [h8]; rfl)))]; exact h8
   ·rw [List.mem_singleton] at h7; subst h7
    refine ⟨?_,hnw,by have:=h1.no; show s13.2.2.2.1≠0; omega⟩
    show mget (mset s13.2.1 s13.2.2.2.1 _) s13.2.2.2.1=_
    rw [zC1,if_pos rfl]; rfl
 ·rcases hq with ⟨⟨s13,s14,s15⟩,rfl,h1,h2,h3,h4,h5,h6⟩ | ⟨_,rfl,_⟩
  ·simp only at h1 h2 h3 h4 h5 h6
   subst h3
   rw [List.take_length] at h4
   have hI : IW ss (B+500) s13:=h1.mono (by omega)
   simp only
   rw [f52_eq hA.tr (fun x hx=>h.rkey x (hA.ro x hx)) (by omega)]
   simp only [Option.bind_some]
   have hR : (zBT (keys o.2.1)).length≤1000:=by
    rw [zCN]
    have h3:=zBj (m:=keys w.2.2.1) hA.tr.1 hA.ro
    rw [keys,keys,List.length_map,List.length_map] at h3
    rw [keys,List.length_map]; omega
   have hobs : ∀ k∈keys w.2.1,k∈keys s13.2.1:=fun k hk=>zBk.2 (by rw [h5 k hk]; exact zBk.1 hk)
   have hto : ∀ x∈keys w.2.1,toOf s14 x∈keys s13.2.1:=fun x hx=>by
    unfold toOf
    cases hg : mget s14 x with
    | none=>exact hobs x hx
    | some z=>exact zBk.2 (by rw [Option.getD_some,(h6 _ (mget_mem hg)).1]; rfl)
   rw [zBS]
   refine (zAq (fun i (s:PW×(List (Int×Int)))=>IW ss (B+500+i) s.1∧s.1.2.1=s13.2.1∧s.2.map (·.1)=(zBT (keys o.2.1)).take i∧(∀ k∈keys w.2.2.1,mget s.1.2.2.1 k=mget w.2.2.1 k)∧(∀ q∈s.2,mget s.1.2.2.1 q.2=some (q.2,(zBX w q.1).2.1,(zBX w q.1).2.2.map (toOf s14)))∧∀ e∈s.1.2.2.1,e∈w.2.2.1∨∃ q∈s.2,q.2=e.1) ⟨by simpa using hI,rfl,by simp,fun k hk=>by rw [h2],fun q hq=>by simp at hq,fun e he=>.inl (by rw [← h2]; exact he)⟩ fun i s hi hs=>?_).bind fun q hq=>?_
   ·obtain ⟨s26,s27⟩:=s
    obtain ⟨g1,g2,g3,g4,g5,g6⟩:=hs
    simp only at g1 g2 g3 g4 g5 g6
    have hl27 : s27.length=i:=by
     have:=congrArg List.length g3
     rw [List.length_map,List.length_take] at this; omega
    unfold f18_b1
    refine zA2 hi ?_
    have hkw : (zBT (keys o.2.1)).getD i default∈keys w.2.2.1:=hA.ro _ (zBv.1 (zBV hi))
    have htk : (zBT (keys o.2.1)).take (i+1)=(zBT (keys o.2.1)).take i++[(zBT (keys o.2.1)).getD i default]:=zCx default hi
    generalize (zBT (keys o.2.1)).getD i default=k at hkw htk ⊢
    obtain ⟨r1,r2,r3,r4,r5⟩:=h.rk _ (zCR h.rn hkw)
    simp only at r1 r2 r3 r4 r5
    have hs3:=zCL hS r4
    have hrel : (mget s26.2.2.1 k).getD (0,([] : Str),[])=zBX w k:=by rw [g4 k hkw]; rfl
    rw [hrel,f60_eq _ (by have:=hs3.2; omega)]
    simp only [Option.bind_some]
    rw [zBS]
    refine (zAq (fun j (x:List Int)=>x.length=(zBX w k).2.2.length∧∀ m,m < (zBX w k).2.2.length→x.getD m default=if m < j then toOf s14 ((zBX w k).2.2.getD m default) else (zBX w k).2.2.getD m default) ⟨rfl,fun m hm=>by simp⟩ fun j x hj hx=>?_).bind fun q hq=>?_
    ·unfold f18_b3
     refine zA2 (by rw [hx.1]; exact hj) ?_
     rw [hx.2 j hj,if_neg (Nat.lt_irrefl j),f61_two]
     simp only [Option.bind_some]
     refine zAB ⟨_,rfl,by rw [List.length_set]; exact hx.1,fun m hm=>?_⟩
     rw [Int.toNat_natCast,getD_set (by rw [hx.1]; exact hj)]
     by_cases hmj : j=m
     ·subst hmj
      rw [if_pos rfl,if_pos (show j < j+1 by omega)]
      generalize (zBX w k).2.2.getD j default=y
      unfold toOf
      cases hg : mget s14 y with
      | none =>
       simp only [Option.getD_none,ne_eq,not_true_eq_false,if_false]
       by_cases h9 : y=0
       ·simp [h9]
       ·simp [h9]
      | some z =>
       have:=(h6 _ (mget_mem hg)).2.2
       simp only [Option.getD_some]
       rw [if_pos this]
     ·rw [if_neg hmj,hx.2 m hm]
      by_cases h9 : m < j
      ·rw [if_pos h9,if_pos (show m < j+1 by omega)]
      ·rw [if_neg h9,if_neg (show ¬ m < j+1 by omega)]
    ·obtain ⟨x,rfl,hx1,hx2⟩:=hq
     have hxe : x=(zBX w k).2.2.map (toOf s14):=ext_getD default (by rw [List.length_map]; exact hx1) fun m hm=>by
      rw [hx1] at hm
      rw [hx2 m hm,if_pos hm,getD_map hm]
     simp only
     have hxr : RelOk ss ((zBX w k).2.1,x):=by
      obtain ⟨t,ht,h6,h7⟩:=r4
      exact ⟨t,ht,h6,h7.trans hx1.symm⟩
     rw [f62_eq s26 (zBX w k).2.1 x (by have:=hs3.2; omega)]
     simp only [Option.bind_some]
     have hxo : ∀ q∈x,q∈keys s26.2.1:=fun q hq=>by
      rw [hxe] at hq
      obtain ⟨y,hy,rfl⟩:=List.mem_map.1 hq
      rw [g2]; exact hto y (r5 y hy)
     have hadd:=g1.addR (by omega) hxr hxo
     have hnf : s26.2.2.2.2∉keys s26.2.2.1:=fun hk=>by have:=g1.rkey _ hk; omega
     have hsr : ∀ k∈keys w.2.2.1,k∈keys s26.2.2.1:=fun k hk=>zBk.2 (by rw [g4 k hk]; exact zBk.1 hk)
     refine zAi (zBf (by rw [List.length_singleton]; omega)) (zAB ⟨_,rfl,?_,g2,?_,fun k' hk'=>?_,fun q hq=>?_,fun e he=>?_⟩)
     ·have : B+500+((i+1 : Nat) : Int)=B+500+(i:Int)+1:=by omega
      rw [this]; exact hadd
     ·simp only [List.map_append,g3,htk]; rfl
     ·show mget (mset s26.2.2.1 s26.2.2.2.2 _) k'=_
      rw [zC1,if_neg (show ¬ k'=s26.2.2.2.2 from fun he=>hnf (he ▸ hsr k' hk'))]; exact g4 k' hk'
     ·show mget (mset s26.2.2.1 s26.2.2.2.2 _) q.2=_
      rw [zC1]
      rcases List.mem_append.1 hq with h7 | h7
      ·rw [if_neg (show ¬ q.2=s26.2.2.2.2 from fun he=>hnf (he ▸ zBk.2 (by rw [g5 q h7]; rfl)))]; exact g5 q h7
      ·rw [List.mem_singleton] at h7; subst h7
       rw [if_pos rfl,hxe]
     ·rcases mset_mem he with h7 | h7
      ·refine .inr ⟨(k,s26.2.2.2.2),by simp,?_⟩
       rw [h7]
      ·rcases g6 e h7 with h8 | ⟨q,hq,h8⟩
       ·exact .inl h8
       ·exact .inr ⟨q,by simp [hq],h8⟩
   ·obtain ⟨⟨s26,s27⟩,rfl,g1,g2,g3,g4,g5,g6⟩:=hq
    simp only at g1 g2 g3 g4 g5 g6
    rw [List.take_length] at g3
    have hI2 : IW ss (B+1500) s26:=g1.mono (by omega)
    simp only
    rw [zBS]
    refine (zA1 (fun i _=>∀ j,j < i→NotFull ss s26.2.2.1 ((s27.getD j default).2,zBX s26 (s27.getD j default).2)) (fun _=>True) (fun j hj=>absurd hj (by omega)) fun i s hi hs=>?_).bind fun q hq=>?_
    ·unfold f18_b2
     refine zA2 hi ?_
     have hk : (s27.getD i default).2∈keys s26.2.2.1:=zBk.2 (by rw [g5 _ (zBV hi)]; rfl)
     obtain ⟨r1,r2,r3,r4,r5⟩:=hI2.rk _ (zCR hI2.rn hk)
     refine Tot.bind (f63_full hS hI2 (by omega) (e:=((s27.getD i default).2,zBX s26 (s27.getD i default).2)) r4) fun b hb=>?_
     refine zAR (fun _=>zAB (.inr ⟨_,rfl,trivial⟩)) (fun h7=>zAB (.inl ⟨_,rfl,fun j hj=>?_⟩))
     rcases Nat.lt_or_ge j i with h8 | h8
     ·exact hs j h8
     ·have : j=i:=by omega
      subst this; exact hb h7
    ·rcases hq with ⟨_,rfl,hnf⟩ | ⟨_,rfl,_⟩
     ·refine zAR (fun _=>zAB ⟨hm,hc,fun h=>h,.inl ⟨by simp,.inr (.inr (.inl rfl))⟩⟩) (fun h7=>zAB ⟨hI2,?_,fun hmx=>?_,.inr ⟨rfl,hf,o,ho,hA,hp,h4,g3,?_,?_,g4,g5⟩⟩)
      ·have:=of_decide_eq_false h7
       show s26.2.2.1.length≤1000; omega
      ·refine hmx.add hI2.rn fun e he=>?_
       rcases g6 e he with h8 | ⟨q,hq,h8⟩
       ·exact .inl h8
       ·right
        obtain ⟨j,hj,rfl⟩:=zB4 default hq
        have h9:=hnf j hj
        have h10 : e=((s27.getD j default).2,zBX s26 (s27.getD j default).2):=by
         refine Prod.ext h8.symm ?_
         show e.2=zBX s26 (s27.getD j default).2
         rw [h8,zBX,mem_mget hI2.rn he]; rfl
        rw [h10]; exact h9
      ·rw [g2]; exact h5
      ·rw [g2]; exact fun q hq=>⟨(h6 q hq).1,(h6 q hq).2.1⟩
     ·exact zAB ⟨hm,hc,fun h=>h,.inl ⟨by simp,.inl rfl⟩⟩
  ·exact zAB ⟨hm,hc,fun h=>h,.inl ⟨by simp,.inr (.inr (.inl rfl))⟩⟩
theorem tot_lrun {S R:Type}{b:S→Option (S ⊕ R)}(Inv:S→Prop) (μ:S→Nat) (Q:R→Prop) (h:∀ s,Inv s→Tot (b s) fun o=>(∃ s',o=.inl s'∧Inv s'∧μ s' < μ s)∨∃ r,o=.inr r∧Q r) : ∀ (k:Nat) (s:S),Inv s→μ s < k→Tot (lrun b k s) Q:=by
 intro k
 induction k with
 | zero=>intro s _ hk; omega
 | succ k ih =>
  intro s hs hk
  obtain ⟨o,h1,h2⟩:=h s hs
  simp only [lrun,h1,Option.bind_some]
  rcases h2 with ⟨s',rfl,h3,h4⟩ | ⟨r,rfl,h3⟩
  ·exact ih s' h3 (by omega)
  ·exact zAB h3
def univ (p:Int) (l:List (List Int)) : List Int:=p::l.flatten
theorem univ_len {p:Int} : ∀ {l:List (List Int)},(∀ x∈l,x.length≤3)→(univ p l).length≤1+3 * l.length:=by
 intro l
 induction l with
 | nil=>intro _; simp [univ]
 | cons x l ih =>
  intro h
  have h1:=ih fun y hy=>h y (List.mem_cons_of_mem _ hy)
  have h2:=h x (by simp)
  simp only [univ,List.length_cons,List.flatten_cons,List.length_append] at h1 ⊢
  omega
theorem f46_t {ss:List SortT}(hS:SS ss){B:Int}{w:PW}(h:IW ss B w) (hB:B≤1000000) (p n:Int) : Tot (f46 w p n) fun _=>True:=by
 unfold f46
 refine zAR (fun _=>zAB trivial) (fun _=>?_)
 refine (f50_t w [p]).bind fun x2 hx=>?_
 refine zAR (fun _=>zAB trivial) (fun h0=>?_)
 have h0' : x2=0:=by simpa using h0
 have hp : p∈keys w.2.1:=by
  rcases hx with ⟨h2,_⟩ | ⟨h2,_⟩ | ⟨_,_,h2⟩
  ·omega
  ·omega
  ·exact h2 p (by simp)
 have hUo : ∀ x∈univ p (w.2.2.1.map (·.2.2.2)),x∈keys w.2.1:=fun x hx=>by
  rcases List.mem_cons.1 hx with h1 | h1
  ·subst h1; exact hp
  ·obtain ⟨l,hl,h2⟩:=List.mem_flatten.1 h1
   obtain ⟨e,he,rfl⟩:=List.mem_map.1 hl
   exact (h.rk e he).2.2.2.2 x h2
 have hUl : (univ p (w.2.2.1.map (·.2.2.2))).length≤1+3 * w.2.2.1.length:=by
  have:=univ_len (p:=p) (l:=w.2.2.1.map (·.2.2.2)) fun x hx=>by
   obtain ⟨e,he,rfl⟩:=List.mem_map.1 hx
   exact (zCL hS (h.rk e he).2.2.2.1).2
  rw [List.length_map] at this; exact this
 have hUe : ∀ e∈w.2.2.1,∀ x∈e.2.2.2,x∈univ p (w.2.2.1.map (·.2.2.2)):=fun e he x hx =>
  List.mem_cons_of_mem _ (List.mem_flatten.2 ⟨_,List.mem_map.2 ⟨e,he,rfl⟩,hx⟩)
 have hUp : p∈univ p (w.2.2.1.map (·.2.2.2)):=by simp [univ]
 generalize univ p (w.2.2.1.map (·.2.2.2))=U at hUo hUl hUe hUp
 have hsl : ∀ s : BM,TS s→(∀ x∈keys s,x∈U)→s.length≤U.length:=fun s h1 h2=>by
  have:=zBj h1.1 h2
  rw [keys,List.length_map] at this; exact this
 refine (tot_lrun (b:=f46_b0 w) (fun s=>TS s.2.2∧(∀ x∈keys s.2.2,x∈U)∧1≤s.2.2.length) (fun s=>if (s.2.2.length : Int)=s.2.1 then 0 else 1+U.length - s.2.2.length) (fun r=>TS r∧∀ x∈keys r,x∈U) (fun s hs=>?_) _ _ ⟨TS.nil.set p,fun x hx=>?_,?_⟩ ?_).bind fun r hr=>?_
 ·obtain ⟨s6,s7,s8⟩:=s
  obtain ⟨h1,h2,h3⟩:=hs
  simp only at h1 h2 h3
  unfold f46_b0
  refine zAR (fun h4=>?_) (fun _=>zAB (.inr ⟨_,rfl,h1,h2⟩))
  simp only [Bool.and_eq_true,Bool.not_eq_true',decide_eq_false_iff_not] at h4
  simp only [zBs,Option.bind_some]
  refine (tot_mfold (fun s:BM=>TS s∧(∀ x∈keys s,x∈U)∧∀ x∈keys s8,x∈keys s) (fun _ _=>True) (fun s e he hs=>?_) ⟨h1,h2,fun x hx=>hx⟩).bind fun o ho=>?_
  ·unfold f46_m1
   rw [f66_eq (q:=fun y1=>f93 y1 s8) (fun y=>(mget s8 y).getD false) (fun y _=>rfl)]
   simp only [Option.bind_some]
   refine zAR (fun _=>?_) (fun _=>zAB ⟨_,rfl,hs,trivial,fun _ _=>trivial⟩)
   rw [zBS]
   refine (zAq (fun i (s:BM)=>TS s∧(∀ x∈keys s,x∈U)∧∀ x∈keys s8,x∈keys s) hs fun i s hi hs=>?_).bind fun o ho=>?_
   ·unfold f46_b2
    refine zA2 hi (zAB ⟨_,rfl,hs.1.set _,fun x hx=>?_,fun x hx=>zBc.2 (.inr (hs.2.2 x hx))⟩)
    rcases zBc.1 hx with h5 | h5
    ·subst h5; exact hUe e he _ (zBV hi)
    ·exact hs.2.1 x h5
   ·obtain ⟨s',rfl,h5⟩:=ho
    exact zAB ⟨_,rfl,h5,trivial,fun _ _=>trivial⟩
  ·obtain ⟨s,rfl,⟨h5,h6,h7⟩,_⟩:=ho
   have h8 : s8.length≤s.length:=by
    have:=zBj h1.1 h7
    rw [keys,keys,List.length_map,List.length_map] at this; exact this
   have h9:=hsl s h5 h6
   refine zAB (.inl ⟨_,rfl,⟨h5,h6,by show 1≤s.length; omega⟩,?_⟩)
   show (if (s.length : Int)=(s8.length : Int) then 0 else 1+U.length - s.length) < if (s8.length : Int)=s7 then 0 else 1+U.length - s8.length
   rw [if_neg h4.2]
   split <;> omega
 ·rcases zBc.1 hx with h1 | h1
  ·subst h1; exact hUp
  ·simp at h1
 ·exact Nat.le_refl 1
 ·show (if ((mset [] p true : BM).length : Int)=-1 then 0 else 1+U.length - (mset [] p true : BM).length) < _
  rw [if_neg (by omega)]
  have : (mset [] p true : BM).length=1:=rfl
  omega
 ·have hn:=h.no
  show Tot ((f52 r).bind fun x17=>some ((0:Int),x17)) _
  rw [f52_eq hr.1 (fun x hx=>h.ok x (hUo x (hr.2 x hx))) (by omega)]
  exact zAB trivial
structure IR (ss:List SortT) (B:Int) (w:RW) : Prop where
 srt : w.1=ss
 rk : ∀ e∈w.2.2.1,RelOk ss e.2
 ps : ∀ e∈w.2.2.1,0≤e.1
 ol : w.2.1.length≤2000
 rl : w.2.2.1.length≤2000
 nr : 0≤w.2.2.2.2∧w.2.2.2.2≤B
theorem IR.new {p:List SortT} : IR p 1 (p,[],[],1,1):=⟨rfl,fun e he=>by simp at he,fun e he=>by simp at he,by simp,by simp,⟨by simp,Int.le_refl _⟩⟩
theorem IR.mono {ss:List SortT}{B C:Int}{w:RW}(h:IR ss B w) (hC:B≤C) : IR ss C w:=⟨h.srt,h.rk,h.ps,h.ol,h.rl,⟨h.nr.1,by have:=h.nr.2; omega⟩⟩
theorem f81_t {ss:List SortT}{w:RW}(hw:w.1=ss) (nm:Str) : Tot (f81 w nm) fun r=>(r.2=true∧r.1∈ss∧r.1.1=nm)∨(r.2=false∧r.1=(([] : Str),([] : List RoleT))∧∀ s∈ss,s.1≠nm):=by
 subst hw
 unfold f81
 refine (zCE (p:=w.1) (g:=f81_b0 w nm) (fun s:SortT=>decide (s.1=nm)) (fun s=>(s.1,s.2)) (fun i s=>rfl)).bind fun o ho=>?_
 rcases ho with ⟨rfl,h1⟩ | ⟨i,hi,rfl,h1,_⟩
 ·refine zAB (.inr ⟨rfl,rfl,fun s hs he=>?_⟩)
  exact absurd (decide_eq_true he) (List.any_eq_false.1 h1 s hs)
 ·exact zAB (.inl ⟨rfl,zBV hi,of_decide_eq_true h1⟩)
theorem f81o_t {ss:List SortT}{w:RW}(hw:w.1=ss) (nm:Str) : Tot (f81o w nm) fun r=>(r.2=true∧r.1∈ss∧r.1.1=nm)∨(r.2=false∧r.1=(([] : Str),([] : List RoleT))∧∀ s∈ss,s.1≠nm):=f81_t hw nm
theorem rel_lenR {ss:List SortT}(hS:SS ss){B:Int}{w:RW}(h:IR ss B w){s:SortT}(hs:s∈ss){e:Int×Str×List Int}(he:e∈w.2.2.1) (hn:e.2.1=s.1) : e.2.2.length=s.2.length:=by
 obtain ⟨t,ht,h1,h2⟩:=h.rk e he
 have : t=s:=hS.uniq t ht s hs (h1.trans hn)
 rw [← h2,this]
theorem f83_t {w:RW}(ho:w.2.1.length≤100000) (hr:w.2.2.1.length≤100000) : f83 w=some ():=by
 unfold f83; rw [zBf (by omega),zBf (by omega)]; rfl
theorem f84_t {w:RW}(hr:w.2.2.1.length≤100000) (nm:Str){l:List Int}(hl:l.length≤100000) : f84 w nm l=some ():=by
 unfold f84; rw [zBf (by omega),zBf (by rw [List.length_singleton]; omega)]; rfl
theorem f113_t {ss:List SortT}(hS:SS ss){B:Int}{w:RW}(h:IR ss B w){s:SortT}(hs:s∈ss) (p1:Int){i:Nat}(hi:i < s.2.length) : Tot (f113 w p1 s.1 (i:Int)) fun _=>True:=by
 unfold f113
 rw [zBS]
 refine (zAq (fun _ _=>True) trivial fun j n hj _=>?_).bind fun o ho=>?_
 ·unfold f113_b0
  rw [zBW hj]
  simp only [Option.bind_some]
  refine Tot.bind (Q:=fun o=>∃ n,o=.inl n) (zAi ?_ (zAR (fun _=>zAB ⟨_,rfl⟩) fun _=>zAB ⟨_,rfl⟩)) fun o ho=>?_
  ·by_cases hn : (w.2.2.1.getD j default).2.1=s.1
   ·have:=rel_lenR hS h hs (zBV hj) hn
    rw [zBW (by omega)]; simp
   ·rw [decide_eq_false hn]; rfl
  ·obtain ⟨n,rfl⟩:=ho
   exact zAB ⟨_,rfl,trivial⟩
 ·obtain ⟨n,rfl,_⟩:=ho
  exact zAB trivial
theorem f85_t {ss:List SortT}(hS:SS ss){B:Int}{w:RW}(h:IR ss B w) : Tot (f85 w) fun _=>True:=by
 unfold f85
 rw [zBS]
 refine (zA1 (fun _ _=>True) (fun _=>True) trivial fun i u hi _=>?_).bind fun o ho=>?_
 ·unfold f85_b0
  refine zA2 hi ?_
  have hs : w.1.getD i default∈ss:=h.srt ▸ zBV hi
  generalize w.1.getD i default=s at hs
  rw [zBS]
  refine (zA1 (fun _ _=>True) (fun _=>True) trivial fun j u hj _=>?_).bind fun o ho=>?_
  ·unfold f85_b1
   refine zA2 hj ?_
   rw [zBS]
   refine (zA1 (fun _ _=>True) (fun _=>True) trivial fun k u hk _=>?_).bind fun o ho=>?_
   ·unfold f85_b2
    refine zA2 hk ?_
    obtain ⟨c,hc,_⟩:=f113_t hS h hs (w.2.1.getD k default).1 hj
    rw [hc]
    refine zAi (by simp) (zAR (fun _=>zAB (.inr ⟨_,rfl,trivial⟩)) (fun _=>zAB (.inl ⟨_,rfl,trivial⟩)))
   ·rcases ho with ⟨_,rfl,_⟩ | ⟨_,rfl,_⟩
    ·exact zAB (.inl ⟨_,rfl,trivial⟩)
    ·exact zAB (.inr ⟨_,rfl,trivial⟩)
  ·rcases ho with ⟨_,rfl,_⟩ | ⟨_,rfl,_⟩
   ·exact zAB (.inl ⟨_,rfl,trivial⟩)
   ·exact zAB (.inr ⟨_,rfl,trivial⟩)
 ·rcases ho with ⟨_,rfl,_⟩ | ⟨_,rfl,_⟩
  ·exact zAB trivial
  ·exact zAB trivial
theorem IR.addR {ss:List SortT}{B:Int}{w:RW}(h:IR ss B w) (hB:B≤1000000) (hl:w.2.2.1.length < 2000){nm:Str}{l:List Int}(hr:RelOk ss (nm,l)) : IR ss (B+1) (w.1,w.2.1,w.2.2.1++[(w.2.2.2.2,nm,l)],w.2.2.2.1,w64 (w.2.2.2.2+1)):=by
 have hn:=h.nr
 rw [zCb (by omega) (by omega)]
 exact ⟨h.srt,fun e he=>by
  rcases List.mem_append.1 he with h1 | h1
  ·exact h.rk e h1
  ·rw [List.mem_singleton] at h1; subst h1; exact hr,fun e he=>by
  rcases List.mem_append.1 he with h1 | h1
  ·exact h.ps e h1
  ·rw [List.mem_singleton] at h1; subst h1; exact hn.1,h.ol,by show (w.2.2.1++[(w.2.2.2.2,nm,l)]).length≤2000; rw [List.length_append,List.length_singleton]; omega,by show 0≤w.2.2.2.2+1; omega,by show w.2.2.2.2+1≤B+1; omega⟩
theorem f32_t {ss:List SortT}(hS:SS ss){B:Int}{w:RW}(hI:IR ss B w) (hB:B≤1000000) (ho:w.2.1.length≤1000) (hc:w.2.2.1.length≤1000){p1:Str}{p2:List Int}(hp:p1.length≤100000) : Tot (f32 w p1 p2) fun r=>IR ss (B+1) r.2.2:=by
 have h:=hI.mono (C:=B+1) (by omega)
 unfold f32
 rw [f80_eq p1 hp]
 simp only [Option.bind_some]
 refine zAR (fun _=>zAB h) (fun _=>?_)
 rw [zBS]
 refine (zA1 (fun _ _=>True) (fun _=>True) trivial fun i u hi _=>?_).bind fun o ho=>?_
 ·unfold f32_b0
  exact zA2 hi (zAR (fun _=>zAB (.inr ⟨_,rfl,trivial⟩)) (fun _=>zAB (.inl ⟨_,rfl,trivial⟩)))
 ·rcases ho with ⟨_,rfl,_⟩ | ⟨_,rfl,_⟩
  ·refine (f81o_t h.srt p1).bind fun x9 hx=>?_
   refine zAR (fun _=>zAB h) (fun h0=>?_)
   rcases hx with ⟨_,hs,hn⟩ | ⟨h1,_⟩
   ·refine (zA1 (fun _ _=>True) (fun _=>True) trivial fun i u hi _=>?_).bind fun o ho=>?_
    ·unfold f32_b1
     refine zA2 hi ?_
     rw [f82_eq]
     simp only [Option.bind_some]
     exact zAR (fun _=>zAB (.inr ⟨_,rfl,trivial⟩)) (fun _=>zAB (.inl ⟨_,rfl,trivial⟩))
    ·rcases ho with ⟨_,rfl,_⟩ | ⟨_,rfl,_⟩
     ·refine zAR (fun _=>zAB h) (fun hl=>?_)
      have hl' : p2.length=x9.1.2.length:=by
       simp only [Bool.not_eq_false',decide_eq_true_eq] at hl; omega
      have hr : RelOk ss (p1,p2):=⟨x9.1,hs,hn,hl'.symm⟩
      have h3:=(zCL hS hr).2
      rw [f83_t (by omega) (by omega),f84_t (by omega) p1 (by simp only at h3; omega)]
      simp only [Option.bind_some]
      have hA:=hI.addR hB (by omega) hr
      refine (f85_t hS hA).bind fun b _=>?_
      exact zAR (fun _=>zAB h) (fun _=>zAR (fun _=>zAB h) (fun _=>zAB hA))
     ·exact zAB h
   ·rw [h1] at h0; cases h0
  ·exact zAB h
theorem f36_t (w:RW) (k:Int) : Tot (f36 w k) fun r=>(r.2≠0∧((∀ e∈w.2.2.1,e.1≠k)∨k < 0))∨(r.2=0∧r.1∈w.2.2.1∧r.1.1=k):=by
 unfold f36
 refine zAR (fun h=>zAB (.inl ⟨by show (7:Int)≠0; decide,.inr (of_decide_eq_true h)⟩)) (fun _=>?_)
 refine (zCE (g:=f36_b0 w k) (fun x:Int×Str×List Int=>decide (x.1=k)) (fun x=>(x.1,x.2.1,x.2.2)) (fun i s=>rfl)).bind fun o ho=>?_
 rcases ho with ⟨rfl,h1⟩ | ⟨i,hi,rfl,h1,_⟩
 ·exact zAB (.inl ⟨by show (8:Int)≠0; decide,.inl fun e he h2=>List.any_eq_false.1 h1 e he (decide_eq_true h2)⟩)
 ·exact zAB (.inr ⟨rfl,zBV hi,of_decide_eq_true h1⟩)
theorem f35_t (w:RW) (k:Int) : Tot (f35 w k) fun _=>True:=by
 unfold f35
 refine zAR (fun h=>zAB trivial) (fun _=>?_)
 refine (zCE (g:=f35_b0 w k) (fun x:Int×Int×Str=>decide (x.1=k)) (fun x=>(x.1,x.2.1,x.2.2)) (fun i s=>rfl)).bind fun o ho=>?_
 rcases ho with ⟨rfl,h1⟩ | ⟨i,hi,rfl,h1,_⟩
 ·exact zAB trivial
 ·exact zAB trivial
theorem f86_t {ss:List SortT}{B:Int}{w:RW}(h:IR ss B w) (hc:w.2.2.1.length≤1000) (l:List Int) : Tot (f86 w l) fun r=>IR ss B r∧r.2.1=w.2.1∧r.2.2.1.length≤w.2.2.1.length:=by
 unfold f86
 rw [zBS]
 refine (zAq (fun i (s:List (Int×Str×List Int))=>s.length≤i∧∀ e∈s,e∈w.2.2.1) ⟨by simp,fun e he=>by simp at he⟩ fun i s hi hs=>?_).bind fun o ho=>?_
 ·unfold f86_b0
  rw [zBW hi]
  simp only [Option.bind_some,zCp]
  refine Tot.bind (Q:=fun o=>∃ s' : List (Int×Str×List Int),o=.inl s'∧s'.length≤i+1∧∀ e∈s',e∈w.2.2.1) (zAR (fun _=>zAi (zBf (by rw [List.length_singleton]; omega)) (zAB ⟨_,rfl,by rw [List.length_append,List.length_singleton]; omega,fun e he=>?_⟩)) fun _=>zAB ⟨_,rfl,by omega,hs.2⟩) fun o ho=>?_
  ·rcases List.mem_append.1 he with h1 | h1
   ·exact hs.2 e h1
   ·rw [List.mem_singleton] at h1; subst h1; exact zBV hi
  ·obtain ⟨s',rfl,h1⟩:=ho
   exact zAB ⟨_,rfl,h1⟩
 ·obtain ⟨s,rfl,h1,h2⟩:=ho
  exact zAB ⟨⟨h.srt,fun e he=>h.rk e (h2 e he),fun e he=>h.ps e (h2 e he),h.ol,Nat.le_trans h1 h.rl,h.nr⟩,rfl,h1⟩
theorem f34_t {ss:List SortT}{B:Int}{w:RW}(h:IR ss B w) (hc:w.2.2.1.length≤1000) (k:Int) : Tot (f34 w k) fun r=>IR ss B r.2:=by
 unfold f34
 refine (f36_t w k).bind fun x hx=>?_
 refine Tot.bind (Q:=fun o=>∃ w',o=.inl w'∧IR ss B w') (zAR (fun _=>(f86_t h hc [k]).bind fun r hr=>zAB ⟨_,rfl,hr.1⟩) fun _=>zAB ⟨_,rfl,h⟩) fun o ho=>?_
 obtain ⟨w',rfl,h1⟩:=ho
 exact zAB h1
theorem f48_t {ss:List SortT}{B:Int}{w:RW}(h:IR ss B w) (p1:Int) (p2:Str) : Tot (f48 w p1 p2) fun r=>IR ss B r.2.2:=by
 unfold f48
 refine zAR (fun _=>zAB h) (fun _=>?_)
 refine (zBN (show f91 p1=some _ from rfl)).bind fun b _=>?_
 refine zAR (fun _=>zAB h) (fun _=>zAR (fun _=>zAB h) (fun h1=>?_))
 have:=of_decide_eq_false h1
 exact zAi (zBf (by rw [List.length_singleton]; omega)) (zAB ⟨h.srt,h.rk,h.ps,by show (w.2.1++[_]).length≤2000; rw [List.length_append,List.length_singleton]; omega,h.rl,h.nr⟩)
theorem f114_t (s:SortT) (nm:Str) : Tot (f114 s nm) fun r=>r.2=true→0≤r.1∧r.1 < s.2.length:=by
 unfold f114
 rw [zBS]
 refine (zA1 (fun _ _=>True) (fun r:Int=>0≤r∧r < s.2.length) trivial fun i u hi _=>?_).bind fun o ho=>?_
 ·unfold f114_b0
  exact zA2 hi (zAR (fun _=>zAB (.inr ⟨_,rfl,by omega,by omega⟩)) (fun _=>zAB (.inl ⟨_,rfl,trivial⟩)))
 ·rcases ho with ⟨_,rfl,_⟩ | ⟨_,rfl,h⟩
  ·exact zAB fun h=>by cases h
  ·exact zAB fun _=>h
theorem f87_t {ss:List SortT}{B:Int}{w:RW}(h:IR ss B w) (p1:Int){p2:Str}{p3:List Str}(h2:p2.length≤100000) (h3:∀ y∈p3,y.length≤100000) (hl:p3.length≤100) : Tot (f87 w p1 p2 p3) fun r=>r.1=0→∃ s∈ss,s.1=p2∧r.2.length=p3.length∧∀ z∈r.2,0≤z∧z < s.2.length:=by
 unfold f87
 refine zAi (zBf (by rw [List.length_singleton]; omega)) ?_
 rw [zBS]
 refine (zA1 (fun _ _=>True) (fun _=>True) trivial fun i u hi _=>?_).bind fun o ho=>?_
 ·unfold f87_b0
  refine zA2 hi ?_
  have hm : ([p2]++p3).getD i default∈[p2]++p3:=zBV hi
  have hy : (([p2]++p3).getD i default).length≤100000:=by
   rcases List.mem_append.1 hm with h1 | h1
   ·rw [List.mem_singleton] at h1; rw [h1]; exact h2
   ·exact h3 _ h1
  rw [f80_eq _ hy]
  simp only [Option.bind_some]
  exact zAR (fun _=>zAB (.inr ⟨_,rfl,trivial⟩)) (fun _=>zAB (.inl ⟨_,rfl,trivial⟩))
 ·rcases ho with ⟨_,rfl,_⟩ | ⟨_,rfl,_⟩
  ·refine zAR (fun _=>zAB fun h=>absurd h (by decide)) (fun _=>?_)
   refine (f81_t h.srt p2).bind fun x8 hx=>?_
   refine zAR (fun _=>zAB fun h=>absurd h (by decide)) (fun h0=>?_)
   rcases hx with ⟨_,hs,hn⟩ | ⟨h1,_⟩
   ·rw [zBS]
    refine (zA1 (fun i l=>l.length=i∧∀ z : Int,z∈l→0≤z∧z < x8.1.2.length) (fun _=>True) ⟨rfl,fun z hz=>by simp at hz⟩ fun i l hi hl'=>?_).bind fun o ho=>?_
    ·unfold f87_b1
     refine zA2 hi ?_
     refine (f114_t x8.1 _).bind fun r hr=>?_
     refine zAR (fun _=>zAB (.inr ⟨_,rfl,trivial⟩)) (fun h6=>?_)
     refine zAi (zBf (by rw [List.length_singleton]; omega)) (zAB (.inl ⟨_,rfl,by rw [List.length_append,hl'.1]; rfl,fun z hz=>?_⟩))
     rcases List.mem_append.1 hz with hz | hz
     ·exact hl'.2 z hz
     ·rw [List.mem_singleton] at hz; subst hz
      exact hr (by simpa using h6)
    ·rcases ho with ⟨l,rfl,h5,h6⟩ | ⟨_,rfl,_⟩
     ·rw [f82_eq]
      simp only [Option.bind_some]
      exact zAR (fun _=>zAB fun h=>absurd h (by decide)) (fun _=>zAB fun _=>⟨x8.1,hs,hn,h5,h6⟩)
     ·exact zAB fun h=>absurd h (by decide)
   ·rw [h1] at h0; cases h0
  ·exact zAB fun h=>absurd h (by decide)
theorem f37_t {ss:List SortT}(hS:SS ss){B:Int}{w:RW}(h:IR ss B w) (hc:w.2.2.1.length≤1000) (p1:Int){p2 p3:Str}(h2:p2.length≤100000) (h3:p3.length≤100000) : Tot (f37 w p1 p2 p3) fun _=>True:=by
 unfold f37
 refine (f87_t h p1 h2 (p3:=[p3]) (fun y hy=>by rw [List.mem_singleton] at hy; subst hy; exact h3) (by simp)).bind fun x hx=>?_
 refine zAR (fun _=>zAB trivial) (fun h0=>?_)
 obtain ⟨s,hs,h4,h5,h6⟩:=hx (by simpa using h0)
 have hl : 0 < x.2.length:=by rw [h5]; exact Nat.zero_lt_one
 have hz : ix x.2 0=some (x.2.getD 0 default):=zBW (i:=0) hl
 have h7:=h6 _ (zBV (d:=default) hl)
 rw [zBS]
 refine (zAq (fun i (l:List Int)=>l.length≤i) (by simp) fun i l hi hl'=>?_).bind fun o ho=>?_
 ·unfold f37_b0
  rw [zBW hi,hz]
  simp only [Option.bind_some,Option.isSome_some,Bool.or_true,cond_true,Option.getD_some]
  refine Tot.bind (Q:=fun o=>∃ s' : List Int,o=.inl s'∧s'.length≤i+1) (zAi ?_ (zAR (fun _=>zAi (zBf (by rw [List.length_singleton]; omega)) (zAB ⟨_,rfl,by rw [List.length_append,List.length_singleton]; omega⟩)) fun _=>zAB ⟨_,rfl,by omega⟩)) fun o ho=>?_
  ·by_cases hn : (w.2.2.1.getD i default).2.1=p2
   ·have:=rel_lenR hS h hs (zBV hi) (hn.trans h4.symm)
    rw [ix_int h7.1 (by omega)]; simp
   ·rw [decide_eq_false hn]; rfl
  ·obtain ⟨s',rfl,h1⟩:=ho
   exact zAB ⟨_,rfl,h1⟩
 ·obtain ⟨l,rfl,_⟩:=ho
  exact zAB trivial
theorem f39_t {ss:List SortT}(hS:SS ss){B:Int}{w:RW}(h:IR ss B w) (ho:w.2.1.length≤1000) (p1:Int){p2 p3 p4:Str}(h2:p2.length≤100000) (h3:p3.length≤100000) (h4:p4.length≤100000) : Tot (f39 w p1 p2 p3 p4) fun _=>True:=by
 unfold f39
 refine (f87_t h p1 h2 (p3:=[p3,p4]) (fun y hy=>by
  rcases List.mem_cons.1 hy with hy | hy
  ·subst hy; exact h3
  ·rw [List.mem_singleton] at hy; subst hy; exact h4) (by simp)).bind fun x hx=>?_
 refine zAR (fun _=>zAB trivial) (fun h0=>?_)
 obtain ⟨s,hs,h4,h5,h6⟩:=hx (by simpa using h0)
 have hl : x.2.length=2:=h5
 have hz : ix x.2 0=some (x.2.getD 0 default):=zBW (i:=0) (by omega)
 have hy : ix x.2 1=some (x.2.getD 1 default):=zBW (i:=1) (by omega)
 have h7:=h6 _ (zBV (d:=default) (j:=0) (by omega))
 have h8:=h6 _ (zBV (d:=default) (j:=1) (by omega))
 rw [zBS]
 refine (zAq (fun i (l:List Int)=>l.length≤i) (by simp) fun i l hi hl'=>?_).bind fun o ho=>?_
 ·unfold f39_b0
  refine zA2 hi ?_
  rw [zBS]
  refine (zA1 (fun _ _=>True) (fun _=>True) trivial fun j u hj _=>?_).bind fun o ho=>?_
  ·unfold f39_b1
   rw [zBW hj,hz,hy]
   simp only [Option.bind_some,Option.isSome_some,Bool.or_true,cond_true,Option.getD_some]
   by_cases hn : (w.2.2.1.getD j default).2.1=p2
   ·have h9:=rel_lenR hS h hs (zBV hj) (hn.trans h4.symm)
    have e1 : Option.isSome (ix (w.2.2.1.getD j default).2.2 (x.2.getD 0 default))=true:=by rw [ix_int h7.1 (by omega)]; rfl
    have e2 : Option.isSome (ix (w.2.2.1.getD j default).2.2 (x.2.getD 1 default))=true:=by rw [ix_int h8.1 (by omega)]; rfl
    refine zAi (Bool.or_eq_true _ _ ▸ .inr e1) (zAi (Bool.or_eq_true _ _ ▸ .inr e2) ?_)
    exact zAR (fun _=>zAi (zBf (by rw [List.length_singleton]; omega)) (zAB (.inr ⟨_,rfl,trivial⟩))) (fun _=>zAB (.inl ⟨_,rfl,trivial⟩))
   ·rw [decide_eq_false hn]
    exact zAB (.inl ⟨_,rfl,trivial⟩)
  ·rcases ho with ⟨_,rfl,_⟩ | ⟨_,rfl,_⟩
   ·exact zAB ⟨_,rfl,by omega⟩
   ·exact zAB ⟨_,rfl,by rw [List.length_append,List.length_singleton]; omega⟩
 ·obtain ⟨l,rfl,_⟩:=ho
  exact zAB trivial
theorem f117_eq (r:RoleT) (z:Int) : Tot (f117 r z) fun _=>True:=by
 unfold f117
 exact zAR (fun _=>zAB trivial) (fun _=>zAR (fun _=>zAB trivial) (fun _=>zAB trivial))
structure RS (U K:List Int) (a b:List Int) : Prop where
 an : a.Nodup
 bn : b.Nodup
 au : ∀ x∈a,x∈U
 bk : ∀ x∈b,x∈K
theorem RS.lenA {U K a b:List Int}(h:RS U K a b) : a.length≤U.length:=zBj h.an h.au
theorem RS.lenB {U K a b:List Int}(h:RS U K a b) : b.length≤K.length:=zBj h.bn h.bk
theorem any_mem {l:List Int}{x:Int} : (l.any fun y=>decide (y=x))=true↔x∈l:=by
 rw [List.any_eq_true]; exact ⟨fun ⟨y,h1,h2⟩=>of_decide_eq_true h2 ▸ h1,fun h=>⟨x,h,decide_eq_true rfl⟩⟩
theorem nodup_snoc {l:List Int}{x:Int}(h:l.Nodup) (hx:x∉l) : (l++[x]).Nodup:=by
 rw [List.nodup_append]
 exact ⟨h,by simp,fun a ha b hb=>by rw [List.mem_singleton] at hb; subst hb; intro he; exact hx (he ▸ ha)⟩
def Grow (U K a0 b0:List Int) (f:Bool) (a b:List Int) : Prop:=RS U K a b∧a0.length+b0.length≤a.length+b.length∧(f=true→a0.length+b0.length < a.length+b.length)
theorem f90_b6_t {U K a0 b0:List Int}(hU:U.length≤100000){e:Int×Str×List Int}(he:∀ x∈e.2.2,x∈U){b:List Int}{z:Int}{i:Nat}(hi:i < e.2.2.length){f:Bool}{a:List Int}(h:Grow U K a0 b0 f a b) : Tot (f90_b6 e z (i:Int) (f,a)) fun o=>∃ f' a',o=.inl (f',a')∧Grow U K a0 b0 f' a' b:=by
 unfold f90_b6
 simp only
 rw [zBW hi]
 simp only [zCp,Option.bind_some,Option.isSome_some,Bool.or_true,cond_true,Option.getD_some]
 have hl:=h.1.lenA
 refine Tot.bind (Q:=fun o=>∃ f' a',o=.inl (f',a')∧Grow U K a0 b0 f' a' b) (zAR (fun h1=>zAi (zBf (by rw [List.length_singleton]; omega)) (zAB ⟨_,_,rfl,?_⟩)) fun _=>zAB ⟨_,_,rfl,h⟩) fun o ho=>?_
 ·rw [Bool.and_eq_true,Bool.not_eq_true'] at h1
  have hn : e.2.2.getD i default∉a:=fun hm=>by rw [any_mem.2 hm] at h1; exact absurd h1.2 (by simp)
  refine ⟨⟨nodup_snoc h.1.an hn,h.1.bn,fun x hx=>?_,h.1.bk⟩,?_,fun _=>?_⟩
  ·rcases List.mem_append.1 hx with h2 | h2
   ·exact h.1.au x h2
   ·rw [List.mem_singleton] at h2; subst h2; exact he _ (zBV hi)
  ·have:=h.2.1; rw [List.length_append,List.length_singleton]; omega
  ·have:=h.2.1; rw [List.length_append,List.length_singleton]; omega
 ·obtain ⟨f',a',rfl,h1⟩:=ho
  exact zAB ⟨f',a',rfl,h1⟩
theorem f90_b5_t {U K a0 b0:List Int}(hU:U.length≤100000) (hK:K.length≤100000){e:Int×Str×List Int}(he:∀ x∈e.2.2,x∈U) (hk:e.1∈K){z:Int}{x79:SortT×Bool}(hl:x79.1.2.length=e.2.2.length){i:Nat}(hi:i < e.2.2.length){f:Bool}{a b:List Int}(h:Grow U K a0 b0 f a b) : Tot (f90_b5 z e x79 (i:Int) (f,a,b)) fun o=>∃ f' a' b',o=.inl (f',a',b')∧Grow U K a0 b0 f' a' b':=by
 unfold f90_b5
 simp only
 rw [zBW hi,zBW (x:=x79.1.2) (by omega)]
 simp only [Option.bind_some,zCp]
 obtain ⟨c,hc,_⟩:=f117_eq (x79.1.2.getD i default) z
 rw [hc]
 simp only [Option.bind_some]
 refine Tot.bind (Q:=fun o=>∃ f' a' b',o=.inl (f',a',b')∧Grow U K a0 b0 f' a' b') (zAR (fun _=>zAB ⟨_,_,_,rfl,h⟩) fun _=>?_) fun o ho=>?_
 ·refine Tot.bind (Q:=fun o=>∃ f' b',o=.inl (f',b')∧Grow U K a0 b0 f' a b') ?_ fun o ho=>?_
  ·have hb:=h.1.lenB
   refine zAR (fun h1=>zAi (zBf (by rw [List.length_singleton]; omega)) (zAB ⟨_,_,rfl,?_⟩)) (fun _=>zAB ⟨_,_,rfl,h⟩)
   have hn : e.1∉b:=fun hm=>by rw [any_mem.2 hm] at h1; cases h1
   refine ⟨⟨h.1.an,nodup_snoc h.1.bn hn,h.1.au,fun x hx=>?_⟩,?_,fun _=>?_⟩
   ·rcases List.mem_append.1 hx with h2 | h2
    ·exact h.1.bk x h2
    ·rw [List.mem_singleton] at h2; subst h2; exact hk
   ·have:=h.2.1; rw [List.length_append,List.length_singleton]; omega
   ·have:=h.2.1; rw [List.length_append,List.length_singleton]; omega
  ·obtain ⟨f',b',rfl,h1⟩:=ho
   simp only
   rw [zBS]
   refine (zAq (fun _ (s:Bool×List Int)=>Grow U K a0 b0 s.1 s.2 b') h1 fun j s hj hs=>?_).bind fun o ho=>?_
   ·obtain ⟨f2,a2⟩:=s
    refine (f90_b6_t hU he hj hs).mono fun o ho=>?_
    obtain ⟨f3,a3,rfl,h3⟩:=ho
    exact ⟨_,rfl,h3⟩
   ·obtain ⟨⟨f2,a2⟩,rfl,h3⟩:=ho
    exact zAB ⟨_,_,_,rfl,h3⟩
 ·obtain ⟨f',a',b',rfl,h1⟩:=ho
  exact zAB ⟨_,_,_,rfl,h1⟩
theorem f90_b4_t {ss:List SortT}(hS:SS ss){B:Int}{w:RW}(h:IR ss B w){U a0 b0:List Int}(hU:U.length≤100000) (hK:w.2.2.1.length≤100000) (he:∀ e∈w.2.2.1,∀ x∈e.2.2,x∈U) (z:Int){i:Nat}(hi:i < w.2.2.1.length){f:Bool}{a b:List Int}(hG:Grow U (w.2.2.1.map (·.1)) a0 b0 f a b) : Tot (f90_b4 w z (i:Int) (f,a,b)) fun o=>∃ f' a' b',o=.inl (f',a',b')∧Grow U (w.2.2.1.map (·.1)) a0 b0 f' a' b':=by
 unfold f90_b4
 simp only
 rw [zBW hi]
 simp only [Option.bind_some]
 have hm : w.2.2.1.getD i default∈w.2.2.1:=zBV hi
 generalize w.2.2.1.getD i default=e at hm
 refine (f81_t h.srt e.2.1).bind fun x79 hx=>?_
 have hl : x79.1.2.length=e.2.2.length:=by
  obtain ⟨s,hs,h1,h2⟩:=h.rk e hm
  rcases hx with ⟨_,h3,h4⟩ | ⟨_,_,h3⟩
  ·rw [hS.uniq _ h3 s hs (h4.trans h1.symm)]; exact h2
  ·exact absurd h1 (h3 s hs)
 rw [zBS]
 refine (zAq (fun _ (s:Bool×List Int×List Int)=>Grow U (w.2.2.1.map (·.1)) a0 b0 s.1 s.2.1 s.2.2) hG fun j s hj hs=>?_).bind fun o ho=>?_
 ·obtain ⟨f2,a2,b2⟩:=s
  refine (f90_b5_t hU (by rw [List.length_map]; exact hK) (he e hm) (List.mem_map.2 ⟨e,hm,rfl⟩) hl hj hs).mono fun o ho=>?_
  obtain ⟨f3,a3,b3,rfl,h3⟩:=ho
  exact ⟨_,rfl,h3⟩
 ·obtain ⟨⟨f2,a2,b2⟩,rfl,h3⟩:=ho
  exact zAB ⟨_,_,_,rfl,h3⟩
theorem f90_loop {ss:List SortT}(hS:SS ss){B:Int}{w:RW}(h:IR ss B w) (hK:w.2.2.1.length≤1000) (p z:Int) : Tot (lrun (f90_b0 w z) (List.length w.2.1+List.length w.2.2.1 * 4+4) (true,[p],([] : List Int))) fun o=>RS (univ p (w.2.2.1.map (·.2.2))) (w.2.2.1.map (·.1)) o.1 o.2:=by
 have hUl : (univ p (w.2.2.1.map (·.2.2))).length≤1+3 * w.2.2.1.length:=by
  have:=univ_len (p:=p) (l:=w.2.2.1.map (·.2.2)) fun x hx=>by
   obtain ⟨e,he,rfl⟩:=List.mem_map.1 hx
   exact (zCL hS (h.rk e he)).2
  rw [List.length_map] at this; exact this
 have hUe : ∀ e∈w.2.2.1,∀ x∈e.2.2,x∈univ p (w.2.2.1.map (·.2.2)):=fun e he x hx =>
  List.mem_cons_of_mem _ (List.mem_flatten.2 ⟨_,List.mem_map.2 ⟨e,he,rfl⟩,hx⟩)
 have hUp : p∈univ p (w.2.2.1.map (·.2.2)):=by simp [univ]
 have hKl : (w.2.2.1.map (·.1)).length=w.2.2.1.length:=List.length_map _
 generalize univ p (w.2.2.1.map (·.2.2))=U at hUl hUe hUp ⊢
 refine tot_lrun (b:=f90_b0 w z) (fun s=>RS U (w.2.2.1.map (·.1)) s.2.1 s.2.2) (fun s=>if s.1=true then 1+U.length+w.2.2.1.length - (s.2.1.length+s.2.2.length) else 0) _ (fun s hs=>?_) _ _ ⟨by simp,List.nodup_nil,fun x hx=>by rw [List.mem_singleton] at hx; subst hx; exact hUp,fun x hx=>by simp at hx⟩ ?_
 ·obtain ⟨f,a,b⟩:=s
  unfold f90_b0
  refine zAR (fun hf=>?_) (fun _=>zAB (.inr ⟨_,rfl,hs⟩))
  subst hf
  rw [zBS]
  refine (zAq (fun _ (s:Bool×List Int×List Int)=>Grow U (w.2.2.1.map (·.1)) a b s.1 s.2.1 s.2.2) ⟨hs,Nat.le_refl _,fun h=>by cases h⟩ fun j s hj hs=>?_).bind fun o ho=>?_
  ·obtain ⟨f2,a2,b2⟩:=s
   refine (f90_b4_t hS h (by omega) (by omega) hUe z hj hs).mono fun o ho=>?_
   obtain ⟨f3,a3,b3,rfl,h3⟩:=ho
   exact ⟨_,rfl,h3⟩
  ·obtain ⟨⟨f2,a2,b2⟩,rfl,h3⟩:=ho
   have l1:=h3.1.lenA
   have l2:=h3.1.lenB
   have l3:=hs.lenA
   have l4:=hs.lenB
   simp only at l1 l2 l3 l4
   refine zAB (.inl ⟨_,rfl,h3.1,?_⟩)
   have h4:=h3.2.2
   simp only at h4 ⊢
   cases f2
   ·simp only [Bool.false_eq_true,if_false,if_true]; omega
   ·have:=h4 rfl
    simp only [if_true]; omega
 ·simp only [if_true,List.length_singleton,List.length_nil]; omega
theorem f90_t {ss:List SortT}(hS:SS ss){B:Int}{w:RW}(h:IR ss B w) (ho:w.2.1.length≤1000) (hK:w.2.2.1.length≤1000) (p z:Int) : Tot (f90 w p z) fun r=>r.1.length≤w.2.1.length∧r.2.1.length≤w.2.2.1.length∧∀ k∈r.2.1,∃ e∈w.2.2.1,e.1=k:=by
 unfold f90
 refine (f90_loop hS h hK p z).bind fun o _=>?_
 obtain ⟨a,b⟩:=o
 simp only
 rw [zBS]
 refine (zAq (fun i (s:List Int×List Int)=>s.1.length≤i∧s.2.length≤i) ⟨by simp,by simp⟩ fun i s hi hs=>?_).bind fun o ho=>?_
 ·obtain ⟨s17,s18⟩:=s
  obtain ⟨h1,h2⟩:=hs
  simp only at h1 h2
  unfold f90_b1
  simp only
  rw [zBW hi]
  simp only [Option.bind_some,zCp]
  refine Tot.bind (Q:=fun o=>∃ s' : List Int×List Int,o=.inl s'∧s'.1.length≤i+1∧s'.2.length≤i+1) (zAR (fun _=>zAi (zBf (by rw [List.length_singleton]; omega)) (zAB ⟨_,rfl,by simp only [List.length_append,List.length_singleton]; omega,by simp only; omega⟩)) fun _=>?_) fun o ho=>?_
  ·rw [zBS]
   refine (zA1 (fun _ _=>True) (fun _=>True) trivial fun j u hj _=>?_).bind fun o ho=>?_
   ·unfold f90_b3
    rw [zBW hj]
    simp only [Option.bind_some,zCp,Option.isSome_some,Bool.or_true,cond_true]
    exact zAR (fun _=>zAi (zBf (by rw [List.length_singleton]; omega)) (zAB (.inr ⟨_,rfl,trivial⟩))) (fun _=>zAB (.inl ⟨_,rfl,trivial⟩))
   ·rcases ho with ⟨_,rfl,_⟩ | ⟨_,rfl,_⟩
    ·exact zAB ⟨_,rfl,by simp only; omega,by simp only; omega⟩
    ·exact zAB ⟨_,rfl,by simp only; omega,by simp only [List.length_append,List.length_singleton]; omega⟩
  ·obtain ⟨⟨x,y⟩,rfl,h3⟩:=ho
   exact zAB ⟨_,rfl,h3⟩
 ·obtain ⟨⟨x,y⟩,rfl,h3,h4⟩:=ho
  simp only at h3 h4
  simp only
  rw [zBS]
  refine (zAq (fun i (s:List Int)=>s.length≤i∧∀ k∈s,∃ e∈w.2.2.1,e.1=k) ⟨by simp,fun k hk=>by simp at hk⟩ fun i s hi hs=>?_).bind fun o ho=>?_
  ·unfold f90_b2
   rw [zBW hi]
   simp only [Option.bind_some,zCp]
   refine Tot.bind (Q:=fun o=>∃ s' : List Int,o=.inl s'∧s'.length≤i+1∧∀ k∈s',∃ e∈w.2.2.1,e.1=k) (zAR (fun _=>zAi (zBf (by rw [List.length_singleton]; omega)) (zAB ⟨_,rfl,by rw [List.length_append,List.length_singleton]; omega,fun k hk=>?_⟩)) fun _=>zAB ⟨_,rfl,by omega,hs.2⟩) fun o ho=>?_
   ·rcases List.mem_append.1 hk with h5 | h5
    ·exact hs.2 k h5
    ·rw [List.mem_singleton] at h5; subst h5; exact ⟨_,zBV hi,rfl⟩
   ·obtain ⟨s',rfl,h5⟩:=ho
    exact zAB ⟨_,rfl,h5⟩
  ·obtain ⟨s,rfl,h5,h6⟩:=ho
   exact zAB ⟨h3,h5,h6⟩
theorem f40_t {ss:List SortT}(hS:SS ss){B:Int}{w:RW}(h:IR ss B w) (ho:w.2.1.length≤1000) (hK:w.2.2.1.length≤1000) (p z:Int) : Tot (f40 w p z) fun _=>True:=by
 unfold f40
 refine zAR (fun _=>zAB trivial) (fun _=>?_)
 rw [f82_eq]
 simp only [Option.bind_some]
 refine zAR (fun _=>zAB trivial) (fun _=>?_)
 exact (f90_t hS h ho hK p z).bind fun _ _=>zAB trivial
theorem f44_t {ss:List SortT}(hS:SS ss){B:Int}{w:RW}(h:IR ss B w) (ho:w.2.1.length≤1000) (hK:w.2.2.1.length≤1000) (p v:Int) : Tot (f44 w p v) fun r=>IR ss B r.2.2:=by
 unfold f44
 refine (zBN (show f91 v=some _ from rfl)).bind fun b _=>?_
 refine zAR (fun _=>zAB h) (fun _=>?_)
 rw [f82_eq]
 simp only [Option.bind_some]
 refine zAR (fun _=>zAB h) (fun _=>?_)
 refine (f90_t hS h ho hK p 2).bind fun x8 _=>?_
 rw [zBS]
 refine (zAq (fun i (s:List (Int×Int×Str))=>s.length=w.2.1.length) rfl fun i s hi hs=>?_).bind fun o ho=>?_
 ·unfold f44_b0
  rw [zBW (by omega)]
  simp only [Option.bind_some,zCp]
  refine Tot.bind (Q:=fun o=>∃ s' : List (Int×Int×Str),o=.inl s'∧s'.length=w.2.1.length) (zAR (fun _=>zAB ⟨_,rfl,by rw [List.length_set]; exact hs⟩) fun _=>zAB ⟨_,rfl,hs⟩) fun o ho=>?_
  obtain ⟨s',rfl,h5⟩:=ho
  exact zAB ⟨_,rfl,h5⟩
 ·obtain ⟨s,rfl,hl⟩:=ho
  exact zAB ⟨h.srt,h.rk,h.ps,by show s.length≤2000; omega,h.rl,h.nr⟩
theorem f45_t {ss:List SortT}(hS:SS ss){B:Int}{w:RW}(h:IR ss B w) (ho:w.2.1.length≤1000) (hK:w.2.2.1.length≤1000) (p:Int) : Tot (f45 w p) fun r=>IR ss B r.2.2.2:=by
 unfold f45
 refine zAR (fun _=>zAB h) (fun _=>?_)
 rw [f82_eq]
 simp only [Option.bind_some]
 refine zAR (fun _=>zAB h) (fun _=>?_)
 refine (f90_t hS h ho hK p 3).bind fun x6 _=>?_
 rw [zBS]
 refine (zAq (fun i (s:List Int)=>s.length≤i) (by simp) fun i s hi hs=>?_).bind fun o ho'=>?_
 ·unfold f45_b0
  rw [zBW hi]
  simp only [Option.bind_some,zCp]
  rw [zBS]
  refine Tot.bind (Q:=fun o=>∃ s' : List Int,o=.inl s'∧s'.length≤i+1) ?_ fun o ho=>?_
  ·refine (zAq (fun _ (_:Bool)=>True) trivial fun j b hj _=>?_).bind fun o ho=>?_
   ·unfold f45_b2
    rw [zBW hj]
    simp only [Option.bind_some,zCp,Option.isSome_some,Bool.or_true,cond_true]
    exact zAB ⟨_,rfl,trivial⟩
   ·obtain ⟨b,rfl,_⟩:=ho
    exact zAR (fun _=>zAi (zBf (by rw [List.length_singleton]; omega)) (zAB ⟨_,rfl,by rw [List.length_append,List.length_singleton]; omega⟩)) fun _=>zAB ⟨_,rfl,by omega⟩
  ·obtain ⟨s',rfl,h5⟩:=ho
   exact zAB ⟨_,rfl,h5⟩
 ·obtain ⟨s,rfl,_⟩:=ho'
  refine (f86_t h hK s).bind fun x15 hx=>?_
  rw [zBS]
  refine (zAq (fun i (s:List (Int×Int×Str))=>s.length≤i) (by simp) fun i s hi hs=>?_).bind fun o ho'=>?_
  ·unfold f45_b1
   rw [zBW hi]
   rw [hx.2.1] at hi
   simp only [Option.bind_some,zCp]
   refine Tot.bind (Q:=fun o=>∃ s' : List (Int×Int×Str),o=.inl s'∧s'.length≤i+1) (zAR (fun _=>zAi (zBf (by rw [List.length_singleton]; omega)) (zAB ⟨_,rfl,by rw [List.length_append,List.length_singleton]; omega⟩)) fun _=>zAB ⟨_,rfl,by omega⟩) fun o ho=>?_
   obtain ⟨s',rfl,h5⟩:=ho
   exact zAB ⟨_,rfl,h5⟩
  ·obtain ⟨s,rfl,hl⟩:=ho'
   exact zAB ⟨hx.1.srt,hx.1.rk,hx.1.ps,by show s.length≤2000; rw [hx.2.1] at hl; omega,hx.1.rl,hx.1.nr⟩
theorem f47_t {ss:List SortT}(hS:SS ss){B:Int}{w:RW}(h:IR ss B w) (ho:w.2.1.length≤1000) (hK:w.2.2.1.length≤1000) (p n:Int) : Tot (f47 w p n) fun _=>True:=by
 unfold f47
 refine zAR (fun _=>zAB trivial) (fun _=>?_)
 rw [f82_eq]
 simp only [Option.bind_some]
 refine zAR (fun _=>zAB trivial) (fun _=>?_)
 have hUl : (univ p (w.2.2.1.map (·.2.2))).length≤1+3 * w.2.2.1.length:=by
  have:=univ_len (p:=p) (l:=w.2.2.1.map (·.2.2)) fun x hx=>by
   obtain ⟨e,he,rfl⟩:=List.mem_map.1 hx
   exact (zCL hS (h.rk e he)).2
  rw [List.length_map] at this; exact this
 have hUe : ∀ e∈w.2.2.1,∀ x∈e.2.2,x∈univ p (w.2.2.1.map (·.2.2)):=fun e he x hx =>
  List.mem_cons_of_mem _ (List.mem_flatten.2 ⟨_,List.mem_map.2 ⟨e,he,rfl⟩,hx⟩)
 have hUp : p∈univ p (w.2.2.1.map (·.2.2)):=by simp [univ]
 generalize univ p (w.2.2.1.map (·.2.2))=U at hUl hUe hUp
 refine (tot_lrun (b:=f47_b0 w n) (fun s=>0≤s.1∧s.1≤w.2.1.length∧s.2.Nodup∧∀ x∈s.2,x∈U) (fun s=>(w.2.1.length - s.1).toNat) (fun _=>True) (fun s hs=>?_) _ _ ⟨Int.le_refl _,by show (0:Int)≤_; omega,by simp,fun x hx=>by rw [List.mem_singleton] at hx; subst hx; exact hUp⟩ (by simp only; omega)).bind fun r _=>?_
 ·obtain ⟨s6,s7⟩:=s
  obtain ⟨h1,h2,h3,h4⟩:=hs
  simp only at h1 h2 h3 h4
  unfold f47_b0
  refine zAR (fun h5=>?_) (fun _=>zAB (.inr ⟨_,rfl,trivial⟩))
  have h5':=of_decide_eq_true h5
  have h6 : s6 < w.2.1.length:=by omega
  have h7:=zBj h3 h4
  refine zAi (zBf (by omega)) ?_
  rw [zBS]
  refine (zAq (fun _ (s:List Int)=>s.Nodup∧∀ x∈s,x∈U) ⟨h3,h4⟩ fun i s hi hs=>?_).bind fun o ho=>?_
  ·unfold f47_b2
   refine zA2 hi ?_
   have hm : w.2.2.1.getD i default∈w.2.2.1:=zBV hi
   generalize w.2.2.1.getD i default=e at hm
   rw [zBS]
   refine (zAq (fun _ (_:Bool)=>True) trivial fun j b hj _=>?_).bind fun o ho=>?_
   ·unfold f47_b3
    rw [zBW hj]
    simp only [Option.bind_some,zCp,Option.isSome_some,Bool.or_true,cond_true]
    exact zAB ⟨_,rfl,trivial⟩
   ·obtain ⟨b,rfl,_⟩:=ho
    refine (zAq (fun _ (s:List Int)=>s.Nodup∧∀ x∈s,x∈U) hs fun j s hj hs=>?_).bind fun o ho=>?_
    ·unfold f47_b4
     rw [zBW hj]
     simp only [Option.bind_some,zCp,Option.isSome_some,Bool.or_true,cond_true,Option.getD_some]
     have h8:=zBj hs.1 hs.2
     refine Tot.bind (Q:=fun o=>∃ s' : List Int,o=.inl s'∧s'.Nodup∧∀ x∈s',x∈U) (zAR (fun h9=>zAi (zBf (by rw [List.length_singleton]; omega)) (zAB ⟨_,rfl,nodup_snoc hs.1 fun hm=>?_,fun x hx=>?_⟩)) fun _=>zAB ⟨_,rfl,hs⟩) fun o ho=>?_
     ·rw [any_mem.2 hm] at h9; simp at h9
     ·rcases List.mem_append.1 hx with h10 | h10
      ·exact hs.2 x h10
      ·rw [List.mem_singleton] at h10; subst h10; exact hUe e hm _ (zBV hj)
     ·obtain ⟨s',rfl,h10⟩:=ho
      exact zAB ⟨_,rfl,h10⟩
    ·obtain ⟨s',rfl,h10⟩:=ho
     exact zAB ⟨_,rfl,h10⟩
  ·obtain ⟨s',rfl,h10⟩:=ho
   have e1 : w64 (s6+1)=s6+1:=zCb (by omega) (by omega)
   refine zAB (.inl ⟨_,rfl,⟨?_,?_,h10⟩,?_⟩)
   ·simp only [e1]; omega
   ·simp only [e1]; omega
   ·simp only [e1]; omega
 ·show Tot ((rng (f47_b1 w r) (Int.toNat (List.length w.2.1 : Int)) 0 ([] : List Int)).bind _) _
  rw [zBS]
  refine (zAq (fun i (s:List Int)=>s.length≤i) (by simp) fun i s hi hs=>?_).bind fun o ho'=>?_
  ·unfold f47_b1
   rw [zBW hi]
   simp only [Option.bind_some,zCp]
   refine Tot.bind (Q:=fun o=>∃ s' : List Int,o=.inl s'∧s'.length≤i+1) (zAR (fun _=>zAi (zBf (by rw [List.length_singleton]; omega)) (zAB ⟨_,rfl,by rw [List.length_append,List.length_singleton]; omega⟩)) fun _=>zAB ⟨_,rfl,by omega⟩) fun o ho=>?_
   obtain ⟨s',rfl,h5⟩:=ho
   exact zAB ⟨_,rfl,h5⟩
  ·obtain ⟨s,rfl,_⟩:=ho'
   exact zAB trivial
theorem f41_t {ss:List SortT}(hS:SS ss){B:Int}{w:RW}(h:IR ss B w) (hB:B≤900000) (ho:w.2.1.length≤500) (hK:w.2.2.1.length≤500) (p v:Int) : Tot (f41 w p v) fun r=>IR ss (B+1000) r.2.2.2:=by
 have hm:=h.mono (C:=B+1000) (by omega)
 unfold f41
 refine (zBN (show f91 v=some _ from rfl)).bind fun b _=>?_
 refine zAR (fun _=>zAB hm) (fun _=>?_)
 rw [f82_eq]
 simp only [Option.bind_some]
 refine zAR (fun _=>zAB hm) (fun _=>?_)
 refine (f90_t hS h (by omega) (by omega) p 1).bind fun x8 hx=>?_
 obtain ⟨hx1,hx2,hx3⟩:=hx
 rw [f83_t (by omega) (by omega)]
 simp only [Option.bind_some]
 rw [zBS]
 refine (zAq (fun i (s:List (Int×Int)×RW)=>s.1.length≤i∧s.2.1=w.1∧s.2.2.1.length≤w.2.1.length+i∧s.2.2.2.1=w.2.2.1∧s.2.2.2.2.2=w.2.2.2.2) ⟨by simp,rfl,by simp,rfl,rfl⟩ fun i s hi hs=>?_).bind fun o ho'=>?_
 ·obtain ⟨s14,s15⟩:=s
  obtain ⟨h1,h2,h3,h4,h5⟩:=hs
  simp only at h1 h2 h3 h4 h5
  unfold f41_b0
  refine zA2 hi ?_
  refine (f35_t w _).bind fun x66 _=>?_
  refine zAi (zBf (by rw [List.length_singleton]; omega)) (zAi (zBf (by rw [List.length_singleton]; omega)) (zAB ⟨_,rfl,?_,h2,?_,h4,h5⟩))
  ·simp only [List.length_append,List.length_singleton]; omega
  ·simp only [List.length_append,List.length_singleton]; omega
 ·obtain ⟨⟨s14,s15⟩,rfl,h1,h2,h3,h4,h5⟩:=ho'
  simp only at h1 h2 h3 h4 h5
  simp only
  rw [zBS]
  refine (zAq (fun i (s:List (Int×Int)×RW)=>s.1.length≤i∧s.2.1=w.1∧s.2.2.1=s15.2.1∧s.2.2.2.1.length≤w.2.2.1.length+i∧(∀ e∈s.2.2.2.1,RelOk ss e.2∧0≤e.1)∧0≤s.2.2.2.2.2∧s.2.2.2.2.2≤B+i) ⟨by simp,h2,rfl,by simp only [h4]; omega,fun e he=>?_,by simp only [h5]; exact h.nr.1,by simp only [h5]; have:=h.nr.2; omega⟩ fun i s hi hs=>?_).bind fun o ho'=>?_
  ·simp only [h4] at he; exact ⟨h.rk e he,h.ps e he⟩
  ·obtain ⟨s23,s24⟩:=s
   obtain ⟨g1,g2,g3,g4,g5,g6,g7⟩:=hs
   simp only at g1 g2 g3 g4 g5 g6 g7
   unfold f41_b1
   refine zA2 hi ?_
   have hk:=hx3 _ (zBV (d:=default) hi)
   generalize x8.2.1.getD i default=k at hk
   refine (f36_t w k).bind fun x37 hx=>?_
   obtain ⟨e,he,rfl⟩:=hk
   have he' : x37.1∈w.2.2.1:=by
    rcases hx with ⟨_,h6 | h6⟩ | ⟨_,h6,_⟩
    ·exact absurd rfl (h6 e he)
    ·have:=h.ps e he; omega
    ·exact h6
   have hr:=h.rk _ he'
   have h3':=(zCL hS hr).2
   rw [zBS]
   refine (zAq (fun j (s:List Int)=>s.length=j) rfl fun j s hj hs=>?_).bind fun o ho'=>?_
   ·unfold f41_b2
    refine zA2 hj ?_
    rw [zBS]
    have hany:=zCE (g:=f41_b3 s14 (x37.1.2.2.getD j default)) (fun x:Int×Int=>decide (x.1=x37.1.2.2.getD j default)) (fun x=>x.2) (fun i s=>rfl)
    rw [zBS] at hany
    refine hany.bind fun o ho'=>?_
    rcases ho' with ⟨rfl,_⟩ | ⟨_,_,rfl,_⟩
    ·exact zAi (zBf (by rw [List.length_singleton]; omega)) (zAB ⟨_,rfl,by rw [List.length_append,hs]; rfl⟩)
    ·exact zAi (zBf (by rw [List.length_singleton]; omega)) (zAB ⟨_,rfl,by rw [List.length_append,hs]; rfl⟩)
   ·obtain ⟨s41,rfl,hl⟩:=ho'
    refine zAi (zBf (by rw [List.length_singleton]; omega)) ?_
    rw [f84_t (by omega) _ (by omega)]
    have e1 : w64 (s24.2.2.2.2+1)=s24.2.2.2.2+1:=zCb (by omega) (by omega)
    refine zAB ⟨_,rfl,?_,g2,g3,?_,fun e he=>?_,?_,?_⟩
    ·simp only [List.length_append,List.length_singleton]; omega
    ·simp only [List.length_append,List.length_singleton]; omega
    ·rcases List.mem_append.1 he with h6 | h6
     ·exact g5 e h6
     ·rw [List.mem_singleton] at h6; subst h6
      obtain ⟨t,ht,h7,h8⟩:=hr
      exact ⟨⟨t,ht,h7,h8.trans hl.symm⟩,g6⟩
    ·simp only [e1]; omega
    ·simp only [e1]; omega
  ·obtain ⟨⟨s23,s24⟩,rfl,g1,g2,g3,g4,g5,g6,g7⟩:=ho'
   simp only at g1 g2 g3 g4 g5 g6 g7
   have hI : IR ss (B+1000) s24:=⟨g2.trans h.srt,fun e he=>(g5 e he).1,fun e he=>(g5 e he).2,by rw [g3]; omega,by omega,⟨g6,by omega⟩⟩
   simp only
   refine (f85_t hS hI).bind fun b _=>?_
   exact zAR (fun _=>zAB hm) (fun _=>zAR (fun _=>zAB hm) (fun _=>zAB hI))
theorem pair_tot {α:Type} [Inhabited α] {p q:List α}{g:Int→Unit→Option (Unit ⊕ Unit)}(f:α→α→Bool) (hg:∀ i s,g i s=(ix p i).bind fun x=>(ix q i).bind fun y=>bif f x y then some (.inr ()) else some (.inl ())) (hl:p.length=q.length) :
  Tot (rng g (Int.toNat (List.length p : Int)) 0 ()) fun o=>(o=.inl ()∧∀ i,i < p.length→f (p.getD i default) (q.getD i default)=false)∨(o=.inr ()∧∃ i,i < p.length∧f (p.getD i default) (q.getD i default)=true):=by
 refine zCs (fun i x=>f x (q.getD i default)) fun i s hi=>?_
 rw [hg,zBW hi,zBW (by omega)]; rfl
theorem list_eq {α:Type} [Inhabited α] {p q:List α}(hl:p.length=q.length) (h:∀ i,i < p.length→p.getD i default=q.getD i default) : p=q:=ext_getD default hl h
theorem f21_eq (p q:List Int) : f21 p q=some (decide (p=q)):=by
 have h : Tot (f21 p q) (fun b=>b=decide (p=q)):=by
  unfold f21
  refine zAR (fun h1=>⟨_,rfl,?_⟩) (fun h1=>?_)
  ·simp only [Bool.not_eq_true',decide_eq_false_iff_not] at h1
   show false=decide (p=q); symm; rw [decide_eq_false_iff_not]; intro he; exact h1 (by rw [he])
  ·have hl : p.length=q.length:=by simp only [Bool.not_eq_false',decide_eq_true_eq] at h1; omega
   refine (pair_tot (g:=f21_b0 p q) (fun x y=>!decide (x=y)) (fun i s=>rfl) hl).bind fun o ho=>?_
   rcases ho with ⟨rfl,h2⟩ | ⟨rfl,i,hi,h2⟩
   ·refine ⟨_,rfl,?_⟩
    show true=decide (p=q); symm; rw [decide_eq_true_eq]
    exact list_eq hl fun i hi=>by have:=h2 i hi; simpa using this
   ·refine ⟨_,rfl,?_⟩
    show false=decide (p=q); symm; rw [decide_eq_false_iff_not]; intro he; subst he; simp at h2
 exact h.eq
theorem f42_eq (p q:List (Int×Int)) : f42 p q=some (decide (p=q)):=by
 have h : Tot (f42 p q) (fun b=>b=decide (p=q)):=by
  unfold f42
  refine zAR (fun h1=>⟨_,rfl,?_⟩) (fun h1=>?_)
  ·simp only [Bool.not_eq_true',decide_eq_false_iff_not] at h1
   show false=decide (p=q); symm; rw [decide_eq_false_iff_not]; intro he; exact h1 (by rw [he])
  ·have hl : p.length=q.length:=by simp only [Bool.not_eq_false',decide_eq_true_eq] at h1; omega
   refine (pair_tot (g:=f42_b0 p q) (fun x y=>!(decide (x.1=y.1)&&decide (x.2=y.2))) (fun i s=>rfl) hl).bind fun o ho=>?_
   rcases ho with ⟨rfl,h2⟩ | ⟨rfl,i,hi,h2⟩
   ·refine ⟨_,rfl,?_⟩
    show true=decide (p=q); symm; rw [decide_eq_true_eq]
    exact list_eq hl fun i hi=>by have:=h2 i hi; simp at this; exact Prod.ext this.1 this.2
   ·refine ⟨_,rfl,?_⟩
    show false=decide (p=q); symm; rw [decide_eq_false_iff_not]; intro he; subst he; simp at h2
 exact h.eq
abbrev ActT:=ZA
structure Both (ss:List SortT) (B:Int) (w:PW) (r:RW) : Prop where
 iw : IW ss B w
 wl : w.2.2.1.length≤1000
 ir : IR ss B r
 mx : MX ss w.2.2.1
theorem Both.mono {ss:List SortT}{B C:Int}{w:PW}{r:RW}(h:Both ss B w r) (hC:B≤C) : Both ss C w r:=⟨h.iw.mono hC,h.wl,h.ir.mono hC,h.mx⟩
def ShortA (x:ActT) : Prop:=x.2.2.2.2.2.1.length≤100000∧x.2.2.2.2.2.2.1.length≤100000∧x.2.2.2.2.2.2.2.1.length≤100000
theorem f11_t {ss:List SortT}(hS:SS ss){B:Int}{w:PW}{r:RW}(h:Both ss B w r) (hB:B≤800000) (ho:r.2.1.length≤60) (hK:r.2.2.1.length≤80){x:ActT}(hx:ShortA x) : Tot (f11 w r x) fun o=>Both ss (B+1500) o.2.1 o.2.2:=by
 have hm:=h.mono (C:=B+1500) (by omega)
 obtain ⟨hi,hc,hr,hx0⟩:=h
 obtain ⟨x1,x2,x3⟩:=hx
 unfold f11
 refine Tot.bind (Q:=fun o=>∃ b,o=.inl b) ?_ fun o ho'=>?_
 ·exact zAR (fun _=>zAB ⟨_,rfl⟩) (fun _=>zAR (fun _=>zAB ⟨_,rfl⟩) (fun _=>zAR (fun _=>zAB ⟨_,rfl⟩) (fun _=>zAR (fun _=>zAB ⟨_,rfl⟩) (fun _=>zAB ⟨_,rfl⟩))))
 ·obtain ⟨b,rfl⟩:=ho'
  simp only [f21_eq,f42_eq,Option.bind_some,Option.isSome_some,Bool.or_true,cond_true]
  refine zAR (fun _=>?_) (fun _=>?_)
  ·refine (f24_t hS hi (by omega) hc x1).bind fun y hy=>(f32_t hS hr (by omega) (by omega) (by omega) x1).bind fun z hz=>zAB ⟨hy.1.mono (by omega),hy.2.1,hz.mono (by omega),hy.2.2 hx0⟩
  refine zAR (fun _=>?_) (fun _=>?_)
  ·refine (f33_t hS hi _).bind fun y hy=>(f34_t hr (by omega) _).bind fun z hz=>zAB ⟨hy.1.mono (by omega),Nat.le_trans hy.2.1 hc,hz.mono (by omega),hx0.sub hy.1.rn hy.2.2⟩
  refine zAR (fun _=>?_) (fun _=>?_)
  ·exact (f17_t w _).bind fun y hy=>(f35_t r _).bind fun z hz=>zAB hm
  refine zAR (fun _=>?_) (fun _=>?_)
  ·exact (f14_t hS hi _).bind fun y hy=>(f36_t r _).bind fun z hz=>zAB hm
  refine zAR (fun _=>?_) (fun _=>?_)
  ·exact (f19_t hS hi (by omega) _ x1 x2).bind fun y hy=>(f37_t hS hr (by omega) _ x1 x2).bind fun z hz=>zAB hm
  refine zAR (fun _=>?_) (fun _=>?_)
  ·exact (f38_t hS hi (by omega) _ x1 x2 x3).bind fun y hy=>(f39_t hS hr (by omega) _ x1 x2 x3).bind fun z hz=>zAB hm
  refine zAR (fun _=>?_) (fun _=>?_)
  ·exact (f12_t hS hi (by omega) _ _).bind fun y hy=>(f40_t hS hr (by omega) (by omega) _ _).bind fun z hz=>zAB hm
  refine zAR (fun _=>?_) (fun _=>?_)
  ·exact (f18_x hS hi (by omega) hc _ _).bind fun y hy=>(f41_t hS hr (by omega) (by omega) (by omega) _ _).bind fun z hz=>zAB ⟨hy.1,hy.2.1,hz.mono (by omega),hy.2.2.1 hx0⟩
  refine zAR (fun _=>?_) (fun _=>?_)
  ·exact (f43_t hS hi (by omega) _ _).bind fun y hy=>(f44_t hS hr (by omega) (by omega) _ _).bind fun z hz=>zAB ⟨hy.1.mono (by omega),by rw [hy.2.1]; exact hc,hz.mono (by omega),by rw [hy.2.1]; exact hx0⟩
  refine zAR (fun _=>?_) (fun _=>?_)
  ·exact (f20_t hS hi (by omega) _).bind fun y hy=>(f45_t hS hr (by omega) (by omega) _).bind fun z hz=>zAB ⟨hy.1.mono (by omega),Nat.le_trans hy.2.1 hc,hz.mono (by omega),hx0.sub hy.1.rn hy.2.2.1⟩
  refine zAR (fun _=>?_) (fun _=>?_)
  ·exact (f46_t hS hi (by omega) _ _).bind fun y hy=>(f47_t hS hr (by omega) (by omega) _ _).bind fun z hz=>zAB hm
  ·exact (f23_t hi (by omega) _ _).bind fun y hy=>(f48_t hr _ _).bind fun z hz=>zAB ⟨hy.1.mono (by omega),by rw [hy.2.2.1]; exact hc,hz.mono (by omega),by rw [hy.2.2.1]; exact hx0⟩
theorem f10_eq (w:RW) (ho:w.2.1.length≤2000) (hK:w.2.2.1.length≤2000) : f10 w=some (decide (60 < (w.2.1.length : Int))||decide (80 < (w.2.2.1.length : Int))):=by
 unfold f10
 rw [f30_eq w (by omega),f31_eq w (by omega)]
 simp only [Option.bind_some,List.length_map,Option.isSome_some,Bool.or_true,cond_true,Option.getD_some]
def Light (p0:List SortT) (p1:List ActT) : Prop:=(∀ s∈p0,shortS s)∧p0.length≤25∧p1.length≤50∧∀ x∈p1,ShortA x
theorem f6_t {p0:List SortT}{p1:List ActT}(h1:∀ x∈p1,x.2.2.2.2.2.1.length≤1000000000000000∧x.2.2.2.2.2.2.1.length≤1000000000000000∧x.2.2.2.2.2.2.2.1.length≤1000000000000000) : Tot (f6 p0 p1) fun b=>b=true→Light p0 p1:=by
 unfold f6
 refine Tot.bind (zCs (p:=p0) (g:=f6_b0 p0) (fun i s=>decide (60 < (s.1.length : Int))||decide (5 < (s.2.length : Int))||s.2.any fun r=>decide (60 < (r.1.length : Int))) fun i s hi=>?_) fun o ho=>?_
 ·unfold f6_b0
  rw [zBW hi]
  simp only [Option.bind_some]
  generalize p0.getD i default=s
  cases hb : decide (60 < (s.1.length : Int))||decide (5 < (s.2.length : Int))
  ·obtain ⟨o,h2,h3⟩:=zCE (p:=s.2) (g:=f6_b2 s) (fun r:RoleT=>decide (60 < (r.1.length : Int))) (fun _=>()) (fun i s=>rfl)
   rw [h2]
   rcases h3 with ⟨rfl,h4⟩ | ⟨j,_,rfl,_,h4,_⟩
   ·rw [h4]; rfl
   ·rw [h4]; rfl
  ·rfl
 ·rcases ho with ⟨rfl,h2⟩ | ⟨rfl,_⟩
  ·refine Tot.bind (zCE (p:=p1) (g:=f6_b1 p1) (fun x:ActT=>((decide (1010 < (List.length x.2.2.2.2.1 : Int)))||(decide (150 < (w64 ((w64 ((List.length x.2.2.2.2.2.1 : Int)+(List.length x.2.2.2.2.2.2.1 : Int)))+(List.length x.2.2.2.2.2.2.2.1 : Int))))))||(decide (6 < (List.length x.2.2.2.2.2.2.2.2 : Int)))) (fun _=>()) (fun i s=>rfl)) fun o ho=>?_
   rcases ho with ⟨rfl,h3⟩ | ⟨_,_,rfl,_⟩
   ·refine zAB fun hb=>?_
    rw [Bool.and_eq_true,decide_eq_true_eq,decide_eq_true_eq] at hb
    refine ⟨fun s hs=>?_,by omega,by omega,fun x hx=>?_⟩
    ·obtain ⟨i,hi,rfl⟩:=zB4 default hs
     have h4:=h2 i hi
     generalize p0.getD i default=s at h4
     simp only [Bool.or_eq_false_iff,decide_eq_false_iff_not,List.any_eq_false,decide_eq_true_eq] at h4
     exact ⟨by omega,by omega,fun r hr=>by have:=h4.2 r hr; omega⟩
    ·have h4:=List.any_eq_false.1 h3 x hx
     obtain ⟨a1,a2,a3⟩:=h1 x hx
     rw [Bool.not_eq_true] at h4
     simp only [Bool.or_eq_false_iff,decide_eq_false_iff_not] at h4
     obtain ⟨⟨_,h5⟩,_⟩:=h4
     rw [w64_id (z:=(x.2.2.2.2.2.1.length : Int)+(x.2.2.2.2.2.2.1.length : Int)) (by constructor <;> omega),w64_id (by constructor <;> omega)] at h5
     refine ⟨?_,?_,?_⟩ <;> omega
   ·exact zAB fun h=>by cases h
  ·exact zAB fun h=>by cases h
theorem run_t {ss:List SortT}(hS:SS ss){p1:List ActT}(hl:p1.length≤50) (hx:∀ x∈p1,ShortA x) : Tot (rng (f3_b0 p1) (Int.toNat (List.length p1 : Int)) 0 (some (ss,[],[],1,1),some (ss,[],[],1,1))) fun o=>(∃ s : Option PW×Option RW,o=.inl s∧∃ w,s.1=some w∧IW ss 100000 w∧w.2.2.1.length≤1000∧MX ss w.2.2.1)∨∃ s,o=.inr s∧∃ w,s=some w∧IW ss 100000 w∧w.2.2.1.length≤1000∧MX ss w.2.2.1:=by
 rw [zBS]
 refine (zA1 (fun i (s:Option PW×Option RW)=>∃ w r,s=(some w,some r)∧Both ss (1+1500 * i) w r) (fun s=>∃ w,s=some w∧IW ss 100000 w∧w.2.2.1.length≤1000∧MX ss w.2.2.1) ⟨_,_,rfl,⟨IW.new,by simp,IR.new,MX.nil hS⟩⟩ fun i s hi hs=>?_).mono fun o ho=>?_
 ·obtain ⟨w,r,rfl,hb⟩:=hs
  unfold f3_b0
  simp only
  refine zA2 hi ?_
  simp only [Option.bind_some]
  rw [f10_eq r hb.ir.ol hb.ir.rl]
  simp only [Option.bind_some]
  refine zAR (fun _=>zAB (.inr ⟨_,rfl,w,rfl,hb.iw.mono (by omega),hb.wl,hb.mx⟩)) (fun h1=>?_)
  simp only [Bool.or_eq_false_iff,decide_eq_false_iff_not] at h1
  refine (f11_t hS hb (by omega) (by omega) (by omega) (hx _ (zBV hi))).bind fun y hy=>?_
  exact zAB (.inl ⟨_,rfl,_,_,rfl,hy.mono (by omega)⟩)
 ·rcases ho with ⟨s,rfl,w,r,rfl,hb⟩ | h
  ·exact .inl ⟨_,rfl,w,rfl,hb.iw.mono (by omega),hb.wl,hb.mx⟩
  ·exact .inr h
end Go.Ab
namespace Go.Ab
theorem f15_sort (l:List Int) (x:Int) : f15 (zBT l) x=some (decide (x∈l)):=by
 rw [zCp]; congr 1; rw [Bool.eq_iff_iff,any_mem,zBv,decide_eq_true_eq]
theorem ways_ix {a:Nat}{z:Int}(ha:WayN a) (haz:(a:Int)=93+z) (r:RoleT) : ix [0,r.2.2.2.1,r.2.2.2.2.1,r.2.2.2.2.2] z=some (wayOf a r):=by
 rcases ha with h | h | h <;> subst h
 ·obtain rfl : z=1:=by omega
  rfl
 ·obtain rfl : z=2:=by omega
  rfl
 ·obtain rfl : z=3:=by omega
  rfl
theorem ex_succ {P:Nat→Prop}{j:Nat} : (∃ i,i < j+1∧P i)↔(∃ i,i < j∧P i)∨P j:=by
 constructor
 ·rintro ⟨i,hi,h⟩
  rcases Nat.lt_or_ge i j with h1 | h1
  ·exact .inl ⟨i,h1,h⟩
  ·have : i=j:=by omega
   subst this; exact .inr h
 ·rintro (⟨i,hi,h⟩ | h)
  ·exact ⟨i,by omega,h⟩
  ·exact ⟨j,by omega,h⟩
section
variable {ss:List SortT} (hS:SS ss) {a:Nat} {z:Int} (ha:WayN a) (haz:(a:Int)=93+z) {D R T:List Int} {y:Int} {e:Int×Str×List Int} (hr:RelOk ss e.2)
include hS ha haz hr
theorem f3_b2_t {v:Int} : Tot (rng (f3_b2 ss z (zBT D,zBT R,zBT T,y) (e,v)) (Int.toNat (List.length ss : Int)) 0 (false,false)) fun o=>∃ s : Bool×Bool,o=.inl s∧(s.1=true↔∃ i,i < e.2.2.length∧e.2.2.getD i default∈D∧zCw ss a e.2 i≠3)∧(s.2=true↔∃ i,i < e.2.2.length∧e.2.2.getD i default∈D∧zCw ss a e.2 i=1):=by
 rw [zBS]
 refine (zAq (fun i (s:Bool×Bool)=>(s.1=true↔(∃ j,j < i∧(ss.getD j default).1=e.2.1)∧∃ i,i < e.2.2.length∧e.2.2.getD i default∈D∧zCw ss a e.2 i≠3)∧(s.2=true↔(∃ j,j < i∧(ss.getD j default).1=e.2.1)∧∃ i,i < e.2.2.length∧e.2.2.getD i default∈D∧zCw ss a e.2 i=1)) ⟨by simp,by simp⟩ fun i s hi hs=>?_).mono fun o ho=>?_
 ·obtain ⟨s47,s48⟩:=s
  obtain ⟨h1,h2⟩:=hs
  simp only at h1 h2
  unfold f3_b2
  simp only
  rw [zBW hi]
  simp only [Option.bind_some]
  have hsm : ss.getD i default∈ss:=zBV hi
  refine Tot.bind (Q:=fun o=>∃ s : Bool×Bool,o=.inl s∧((s.1=true↔(∃ j,j < i+1∧(ss.getD j default).1=e.2.1)∧∃ i,i < e.2.2.length∧e.2.2.getD i default∈D∧zCw ss a e.2 i≠3)∧(s.2=true↔(∃ j,j < i+1∧(ss.getD j default).1=e.2.1)∧∃ i,i < e.2.2.length∧e.2.2.getD i default∈D∧zCw ss a e.2 i=1))) ?_ fun o ho=>?_
  ·simp only [ex_succ (P:=fun j=>(ss.getD j default).1=e.2.1)]
   generalize ss.getD i default=s at hsm ⊢
   refine zAR (fun h3=>zAB ⟨_,rfl,?_⟩) (fun h3=>?_)
   ·simp only [Bool.not_eq_true',decide_eq_false_iff_not] at h3
    simp only [h3,or_false]; exact ⟨h1,h2⟩
   ·have h3' : s.1=e.2.1:=by simpa using h3
    have hsf : zCd ss e.2.1=s:=by rw [← h3']; exact sortFor_eq hS hsm
    have hl:=(sortFor_rel hS hr).2.2
    rw [hsf] at hl
    rw [zBS]
    refine (zAq (n:=e.2.2.length) (fun j (q:Bool×Bool)=>(q.1=true↔s47=true∨∃ i,i < j∧e.2.2.getD i default∈D∧zCw ss a e.2 i≠3)∧(q.2=true↔s48=true∨∃ i,i < j∧e.2.2.getD i default∈D∧zCw ss a e.2 i=1)) ⟨by simp,by simp⟩ fun j q hj hq=>?_).bind fun o ho=>?_
    ·obtain ⟨q1,q2⟩:=q
     obtain ⟨g1,g2⟩:=hq
     simp only at g1 g2
     unfold f3_b4
     simp only
     rw [zBW hj,zBW (x:=s.2) (by omega)]
     simp only [Option.bind_some,ways_ix ha haz,f15_sort,Option.isSome_some,Bool.or_true,cond_true,Option.getD_some]
     have hw : zCw ss a e.2 j=wayOf a (s.2.getD j default):=by unfold zCw; rw [hsf]
     refine zAB ⟨_,rfl,?_,?_⟩
     ·simp only [Bool.or_eq_true,Bool.and_eq_true,Bool.not_eq_true',decide_eq_true_eq,decide_eq_false_iff_not,← hw]
      rw [g1,ex_succ (P:=fun i=>e.2.2.getD i default∈D∧zCw ss a e.2 i≠3),or_assoc]
     ·simp only [Bool.or_eq_true,Bool.and_eq_true,decide_eq_true_eq,← hw]
      rw [g2,ex_succ (P:=fun i=>e.2.2.getD i default∈D∧zCw ss a e.2 i=1),or_assoc]
    ·obtain ⟨⟨q1,q2⟩,rfl,g1,g2⟩:=ho
     simp only at g1 g2
     refine zAB ⟨_,rfl,?_,?_⟩
     ·simp only; rw [g1,h1,h3']; simp only [or_true,true_and]
      exact ⟨fun h=>h.elim (fun h=>h.2) id,.inr⟩
     ·simp only; rw [g2,h2,h3']; simp only [or_true,true_and]
      exact ⟨fun h=>h.elim (fun h=>h.2) id,.inr⟩
  ·obtain ⟨⟨q1,q2⟩,rfl,g⟩:=ho
   exact zAB ⟨_,rfl,g⟩
 ·obtain ⟨s,rfl,h1,h2⟩:=ho
  have hex : ∃ j,j < ss.length∧(ss.getD j default).1=e.2.1:=by
   obtain ⟨t,ht,h3,_⟩:=hr
   obtain ⟨j,hj,rfl⟩:=zB4 default ht
   exact ⟨j,hj,h3⟩
  exact ⟨s,rfl,h1.trans ⟨fun h=>h.2,fun h=>⟨hex,h⟩⟩,h2.trans ⟨fun h=>h.2,fun h=>⟨hex,h⟩⟩⟩
end
def f3_tail (p0:List SortT) (p2 p3:Int) (x24:PW) : Option Bool :=
 (f12 x24 p2 p3).bind fun x26 =>
  bif !decide (x26.2.2.2=0) then
   ((f7).bind fun x29=>some x29)
  else
   ((f13 x24).bind fun x31 =>
   (rng (f3_b1 p0 p3 x24 x26 x31) (Int.toNat (List.length x31 : Int)) 0 ()).bind fun o35=>match o35 with
    | .inl ()=>((f15 x26.1 p2).bind fun x37 =>
     bif (!x37||Option.isSome (f7)) then
      some (x37&&((f7).getD default))
     else none)
    | .inr ()=>(some false))
theorem f3_tail_t {ss:List SortT}(hS:SS ss){B:Int}{w:PW}(h:IW ss B w) (hB:B≤900000) (p z:Int) : f3_tail ss p z w=some true:=by
 have h1 : Tot (f3_tail ss p z w) (·=true):=by
  unfold f3_tail
  refine (f12_t hS h (by omega) p z).bind fun x26 hx=>?_
  rw [f7_true]
  refine zAR (fun _=>zAB rfl) (fun h0=>?_)
  obtain ⟨a,o,hz1,hz3,ha,haz,hA,rfl⟩:=hx (by simpa using h0)
  rw [f13_t h (by omega)]
  simp only [Option.bind_some]
  rw [zBS]
  refine (zAq (fun _ _=>True) trivial fun i s hi _=>?_).bind fun q hq=>?_
  ·unfold f3_b1
   refine zA2 hi ?_
   have hk : (zBT (keys w.2.2.1)).getD i default∈keys w.2.2.1:=zBv.1 (zBV hi)
   generalize (zBT (keys w.2.2.1)).getD i default=k at hk
   obtain ⟨_,_,_,hrel,hob⟩:=h.rk _ (zCR h.rn hk)
   refine (f14_t hS h k).bind fun x43 hx=>?_
   rcases hx with ⟨_,h2⟩ | ⟨h2,_,h3⟩
   ·exact absurd hk h2
   obtain ⟨e,v⟩:=x43
   simp only at h2 h3
   subst h2
   rw [show (!decide ((0:Int)=0))=false from rfl]
   simp only [cond_false]
   have hrel' : RelOk ss e.2:=by rw [h3]; exact hrel
   refine (f3_b2_t hS ha haz (D:=keys o.1) (R:=keys o.2.1) (T:=keys o.2.2) (y:=0) hrel' (v:=0)).bind fun o' ho=>?_
   obtain ⟨⟨s47,s48⟩,rfl,g1,g2⟩:=ho
   simp only [f15_sort,Option.bind_some] at g1 g2 ⊢
   have hT : (s47=true↔k∈keys o.2.1):=by
    rw [g1,h3]
    constructor
    ·rintro ⟨i,hi,h4,h5⟩
     exact (hA.good _ h4 k hk i hi rfl h5).1
    ·exact fun h4=>hA.tch k h4
   have hTb : s47=decide (k∈keys o.2.1):=by rw [Bool.eq_iff_iff,hT,decide_eq_true_eq]
   refine zAR (fun h4=>?_) (fun _=>?_)
   ·rw [hTb] at h4; simp at h4
   rw [zBS]
   refine (zAq (fun _ _=>True) trivial fun j s hj _=>?_).bind fun q hq=>?_
   ·unfold f3_b3
    rw [zBW hj]
    simp only [f15_sort,Option.bind_some,Option.isSome_some,Bool.or_true,cond_true,Option.getD_some]
    have hm : e.2.2.getD j default∈(zBX w k).2.2:=by rw [← h3]; exact zBV hj
    generalize e.2.2.getD j default=x at hm
    refine zAR (fun h4=>?_) (fun _=>zAB ⟨_,rfl,trivial⟩)
    exfalso
    simp only [Bool.or_eq_true,Bool.and_eq_true,Bool.not_eq_true',decide_eq_false_iff_not] at h4
    rcases h4 with ⟨h4,h5⟩ | ⟨⟨h4,h5⟩,h6⟩
    ·obtain ⟨i,hi,h7,h8⟩:=g2.1 h4
     rw [h3] at hi h7 h8
     exact h5 ((hA.good _ h7 k hk i hi rfl (by rw [h8]; decide)).2 h8 x hm)
    ·rcases hA.tou k (hT.1 h4) x hm with h7 | h7
     ·exact h5 h7
     ·exact h6 h7
   ·obtain ⟨_,rfl,_⟩:=hq
    exact zAB ⟨_,rfl,trivial⟩
  ·obtain ⟨_,rfl,_⟩:=hq
   simp only [f15_sort,Option.bind_some,hA.pd,decide_true,Option.isSome_some,Bool.or_true,cond_true,Option.getD_some]
   exact zAB rfl
 exact h1.eq
theorem f3_b58 : f3_b5=f3_b1:=rfl
theorem f3_t {p0:List SortT}{p1:List ActT}(p2 p3:Int) (h1:∀ x∈p1,x.2.2.2.2.2.1.length≤1000000000000000∧x.2.2.2.2.2.2.1.length≤1000000000000000∧x.2.2.2.2.2.2.2.1.length≤1000000000000000) : f3 p0 p1 p2 p3=some true:=by
 have h2 : Tot (f3 p0 p1 p2 p3) (·=true):=by
  unfold f3
  refine (f6_t h1).bind fun b hb=>?_
  refine zAR (fun _=>by rw [f7_true]; exact zAB rfl) (fun h0=>?_)
  obtain ⟨hs,hl0,hl1,hx⟩:=hb (by simpa using h0)
  rw [f8_eq p0 hs hl0,f9_eq p0 hs]
  simp only [Option.bind_some]
  cases hk : zB8 p0
  ·simp only [cond_false]
   rw [show (!decide ((1:Int)=0))=true from rfl]
   rw [f7_true]; exact zAB rfl
  ·simp only [cond_true,decide_true,Bool.not_true,cond_false]
   have hS:=ss_of hs hk
   refine (run_t hS hl1 hx).bind fun o ho=>?_
   rcases ho with ⟨⟨s1,s2⟩,rfl,w,hw,hI,_⟩ | ⟨s,rfl,w,rfl,hI,_⟩
   ·simp only at hw
    subst hw
    exact zBN (f3_tail_t hS hI (by omega) p2 p3)
   ·rw [f3_b58]
    exact zBN (f3_tail_t hS hI (by omega) p2 p3)
 exact h2.eq
def LenA (x:ActT) : Prop:=x.2.2.2.2.2.1.length≤1000000000000000∧x.2.2.2.2.2.2.1.length≤1000000000000000∧x.2.2.2.2.2.2.2.1.length≤1000000000000000
end Go.Ab
