/- Lemmas for a law of the seat: what functions of the program do, each stated as a contract of its own (X6). -/
import Derived.Test.YtlfdbjcbmecmlaaGreatX5
set_option linter.unusedVariables false
set_option maxRecDepth 100000
namespace Go.Ab
theorem f61_two (a b:Int) : f61 [a,b]=some (if a≠0 then a else if b≠0 then b else 0):=by
 by_cases h1 : a=0
 ·by_cases h2 : b=0
  ·subst h1; subst h2; rfl
  subst h1
  simp [f61,f61_b0,rng,ix,h2]
 simp [f61,f61_b0,rng,ix,h1]
theorem f59_eq (w:PW) : f59 w=some w:=by obtain ⟨a,b,c,d,e⟩:=w; rfl
theorem mset_fresh {α β:Type} [DecidableEq α] : ∀ {x:List (α×β)}{k:α}{v:β},k∉x.map (·.1)→mset x k v=x++[(k,v)]:=by
 intro x
 induction x with
 | nil=>intro k v _; rfl
 | cons p x ih =>
  intro k v h
  obtain ⟨a,b⟩:=p
  simp only [List.map_cons,List.mem_cons,not_or] at h
  simp only [mset,if_neg h.1,ih h.2,List.cons_append]
theorem mget_append_fresh {α β:Type} [DecidableEq α] : ∀ {x:List (α×β)}{k:α}{v:β},k∉x.map (·.1)→mget (x++[(k,v)]) k=some v:=by
 intro x
 induction x with
 | nil=>intro k v _; simp [mget]
 | cons p x ih =>
  intro k v h
  obtain ⟨a,b⟩:=p
  simp only [List.map_cons,List.mem_cons,not_or] at h
  simp only [List.cons_append,mget,if_neg h.1,ih h.2]
theorem nodup_take {α:Type} [Inhabited α] {l:List α}(h:l.Nodup){i:Nat}(hi:i < l.length) : l.getD i default∉l.take i:=by
 have h9:=h
 rw [← List.take_append_drop (i+1) l,zCx default hi,List.nodup_append] at h9
 have h10:=h9.1
 rw [List.nodup_append] at h10
 exact fun hm=>h10.2.2 _ hm _ (by simp) rfl
def toOf (l:List (Int×Int)) (x:Int) : Int:=(mget l x).getD x
structure Copied (ss:List zBU) (w:PW) (p v:Int) (r1 r2:List (Int×Int)) (w':PW) (o:BM×BM×BM) : Prop where
 f : f51 w p 1=some o
 a : Acts ss 94 w p o
 po : p∈keys w.2.1
 k1 : r1.map (·.1)=zBT (keys o.1)
 k2 : r2.map (·.1)=zBT (keys o.2.1)
 o1 : ∀ k∈keys w.2.1,mget w'.2.1 k=mget w.2.1 k
 o2 : ∀ q∈r1,mget w'.2.1 q.2=some (q.2,v,(objAt w q.1).2.2)∧q.2∉keys w.2.1
 t1 : ∀ k∈keys w.2.2.1,mget w'.2.2.1 k=mget w.2.2.1 k
 t2 : ∀ q∈r2,mget w'.2.2.1 q.2=some (q.2,(zBX w q.1).2.1,(zBX w q.1).2.2.map (toOf r1))
theorem f23_some {ss:List zBU}{B:Int}{w:PW}(h:IW ss B w) (hl:¬ (w.2.1.length : Int)=500){v:Int}(hv:f72 v=some true){t:Str}(ht:t.length≤1000) : f23 w v t=some (w.2.2.2.1,0,(w.1,mset w.2.1 w.2.2.2.1 (w.2.2.2.1,v,t),w.2.2.1,w64 (w.2.2.2.1+1),w.2.2.2.2)):=by
 unfold f23
 rw [hv,decide_eq_false hl,decide_eq_false (show ¬ (1000:Int) < (t.length : Int) by omega)]
 rfl
theorem f18_x {ss:List zBU}(hS:SS ss){B:Int}{w:PW}(h:IW ss B w) (hB:B≤900000) (hc:w.2.2.1.length≤1000) (p v:Int) : Tot (f18 w p v) fun r=>IW ss (B+1500) r.2.2.2∧r.2.2.2.2.2.1.length≤1000∧(MX ss w.2.2.1→MX ss r.2.2.2.2.2.1)∧((r.2.2.1≠0∧(r.2.2.1=9∨r.2.2.1=7∨r.2.2.1=4∨f50 w [p]=some r.2.2.1))∨(r.2.2.1=0∧f50 w [p]=some 0∧∃ o,Copied ss w p v r.1 r.2.1 r.2.2.2 o)):=by
 have hm:=h.mono (C:=B+1500) (by omega)
 unfold f18
 have h58 : Tot (f58 w p v) fun x=>(x=7∨(f72 v=some true∧f50 w [p]=some x)):=by
  unfold f58
  rw [f72_eq]
  simp only [Option.bind_some]
  refine zAR (fun _=>zAB (.inl rfl)) (fun h1=>?_)
  obtain ⟨x,hx,_⟩:=f50_t w [p]
  rw [hx]
  exact zAB (.inr ⟨by rw [show (decide (0≤v)&&decide (v≤1000))=true by simpa using h1],rfl⟩)
 refine h58.bind fun x2 hx=>?_
 refine zAR (fun h0=>zAB ⟨hm,hc,fun h=>h,.inl ⟨by simpa using h0,?_⟩⟩) (fun h0=>?_)
 ·rcases hx with rfl | ⟨_,hx⟩
  ·exact .inr (.inl rfl)
  exact .inr (.inr (.inr hx))
 have h0' : x2=0:=by simpa using h0
 subst h0'
 obtain ⟨hv,hf⟩ : f72 v=some true∧f50 w [p]=some 0:=by
  rcases hx with h1 | h1
  ·cases h1
  exact h1
 have hp : p∈keys w.2.1:=by
  obtain ⟨x,hx,h1⟩:=f50_t w [p]
  rw [hf] at hx
  cases hx
  rcases h1 with ⟨h2,_⟩ | ⟨h2,_⟩ | ⟨_,_,h2⟩
  ·cases h2
  ·cases h2
  exact h2 p (by simp)
 obtain ⟨o,ho,a,ha,haz,hA⟩:=f51_t hS h (by omega) hp (z:=1) (by omega) (by omega)
 obtain rfl : a=94:=by omega
 rw [ho]
 simp only [Option.bind_some]
 have hn:=h.no
 have hnr:=h.nr
 rw [f59_eq,f52_eq hA.td (fun x hx=>h.ok x (hA.od x hx)) (by omega)]
 simp only [Option.bind_some]
 have hD : (zBT (keys o.1)).length≤500:=by
  rw [zCN]
  have h3:=zBj (m:=keys w.2.1) hA.td.1 hA.od
  have:=h.ol
  rw [keys,keys,List.length_map,List.length_map] at h3
  rw [keys,List.length_map]; omega
 have hDn : (zBT (keys o.1)).Nodup:=(zBw _).nodup_iff.2 hA.td.1
 rw [zBS]
 refine (zA1 (fun i (s:PW×(List (Int×Int))×(List (Int×Int)))=>IW ss (B+i) s.1∧s.1.2.2.1=w.2.2.1∧s.2.1=s.2.2∧s.2.2.map (·.1)=(zBT (keys o.1)).take i∧(∀ k∈keys w.2.1,mget s.1.2.1 k=mget w.2.1 k)∧∀ q∈s.2.2,mget s.1.2.1 q.2=some (q.2,v,(objAt w q.1).2.2)∧q.2∉keys w.2.1∧q.2≠0) (fun _=>True) ⟨by simpa using h,rfl,rfl,by simp,fun k hk=>rfl,fun q hq=>by simp at hq⟩ fun i s hi hs=>?_).bind fun q hq=>?_
 ·obtain ⟨s13,s14,s15⟩:=s
  obtain ⟨h1,h2,h3,h4,h5,h6⟩:=hs
  simp only at h1 h2 h3 h4 h5 h6
  subst h3
  have hl15 : s14.length=i:=by
   have:=congrArg List.length h4
   rw [List.length_map,List.length_take] at this; omega
  unfold f18_b0
  refine zA2 hi ?_
  refine zAR (fun _=>zAB (.inr ⟨_,rfl,trivial⟩)) (fun hl=>?_)
  have hko : (zBT (keys o.1)).getD i default∈keys w.2.1:=hA.od _ (zBv.1 (zBV hi))
  have hfr : (zBT (keys o.1)).getD i default∉s14.map (·.1):=by
   rw [h4]
   exact nodup_take hDn hi
  have htk : (zBT (keys o.1)).take (i+1)=(zBT (keys o.1)).take i++[(zBT (keys o.1)).getD i default]:=zCx default hi
  generalize (zBT (keys o.1)).getD i default=k at hko hfr htk ⊢
  have hob : (((mget s13.2.1 k).getD (0,0,([] : Str))).2).2=(objAt w k).2.2:=by rw [h5 k hko]; rfl
  rw [hob]
  have htx:=(h.ot _ (objAt_of hko)).2
  simp only at htx
  rw [f23_some h1 (of_decide_eq_false hl) hv htx]
  simp only [Option.bind_some]
  rw [mset_fresh hfr,mget_append_fresh hfr]
  have hno : s13.2.2.2.1∉keys s13.2.1:=fun hk=>by have:=h1.ok _ hk; omega
  have hadd:=h1.addO (by omega) (v:=(s13.2.2.2.1,v,(objAt w k).2.2)) (by have:=of_decide_eq_false hl; omega) ⟨rfl,htx⟩
  have hsub : ∀ k∈keys w.2.1,k∈keys s13.2.1:=fun k hk=>zBk.2 (by rw [h5 k hk]; exact zBk.1 hk)
  have hnw : s13.2.2.2.1∉keys w.2.1:=fun hk=>hno (hsub _ hk)
  refine zAi (zBf (by rw [List.length_singleton]; omega)) (zAB (.inl ⟨_,rfl,?_,h2,rfl,?_,fun k' hk'=>?_,fun q hq=>?_⟩))
  ·have : B+((i+1 : Nat) : Int)=B+(i:Int)+1:=by omega
   rw [this]; exact hadd
  ·simp only [List.map_append,h4,htk]; rfl
  ·show mget (mset s13.2.1 s13.2.2.2.1 _) k'=_
   rw [zC1,if_neg (show ¬ k'=s13.2.2.2.1 from fun he=>hnw (he ▸ hk'))]; exact h5 k' hk'
  rcases List.mem_append.1 hq with h7 | h7
  ·obtain ⟨h8,h9,h10⟩:=h6 q h7
   refine ⟨?_,h9,h10⟩
   show mget (mset s13.2.1 s13.2.2.2.1 _) q.2=_
   rw [zC1,if_neg (show ¬ q.2=s13.2.2.2.1 from fun he=>hno (he ▸ zBk.2 (by rw [h8]; rfl)))]; exact h8
  rw [List.mem_singleton] at h7; subst h7
  refine ⟨?_,hnw,by have:=h1.no; show s13.2.2.2.1≠0; omega⟩
  show mget (mset s13.2.1 s13.2.2.2.1 _) s13.2.2.2.1=_
  rw [zC1,if_pos rfl]; rfl
 rcases hq with ⟨⟨s13,s14,s15⟩,rfl,h1,h2,h3,h4,h5,h6⟩ | ⟨_,rfl,_⟩
 ·simp only at h1 h2 h3 h4 h5 h6
  subst h3
  rw [List.take_length] at h4
  have hI : IW ss (B+500) s13:=h1.mono (by omega)
  simp only
  rw [f52_eq hA.tr (fun x hx=>h.rkey x (hA.ro x hx)) (by omega)]
  simp only [Option.bind_some]
  have hR : (zBT (keys o.2.1)).length≤1000:=by
   rw [zCN]
   have h3:=zBj (m:=keys w.2.2.1) hA.tr.1 hA.ro
   rw [keys,keys,List.length_map,List.length_map] at h3
   rw [keys,List.length_map]; omega
  have hobs : ∀ k∈keys w.2.1,k∈keys s13.2.1:=fun k hk=>zBk.2 (by rw [h5 k hk]; exact zBk.1 hk)
  have hto : ∀ x∈keys w.2.1,toOf s14 x∈keys s13.2.1:=fun x hx=>by
   unfold toOf
   cases hg : mget s14 x with
   | none=>exact hobs x hx
   | some z=>exact zBk.2 (by rw [Option.getD_some,(h6 _ (mget_mem hg)).1]; rfl)
  rw [zBS]
  refine (zAq (fun i (s:PW×(List (Int×Int)))=>IW ss (B+500+i) s.1∧s.1.2.1=s13.2.1∧s.2.map (·.1)=(zBT (keys o.2.1)).take i∧(∀ k∈keys w.2.2.1,mget s.1.2.2.1 k=mget w.2.2.1 k)∧(∀ q∈s.2,mget s.1.2.2.1 q.2=some (q.2,(zBX w q.1).2.1,(zBX w q.1).2.2.map (toOf s14)))∧∀ e∈s.1.2.2.1,e∈w.2.2.1∨∃ q∈s.2,q.2=e.1) ⟨by simpa using hI,rfl,by simp,fun k hk=>by rw [h2],fun q hq=>by simp at hq,fun e he=>.inl (by rw [← h2]; exact he)⟩ fun i s hi hs=>?_).bind fun q hq=>?_
  ·obtain ⟨s26,s27⟩:=s
   obtain ⟨g1,g2,g3,g4,g5,g6⟩:=hs
   simp only at g1 g2 g3 g4 g5 g6
   have hl27 : s27.length=i:=by
    have:=congrArg List.length g3
    rw [List.length_map,List.length_take] at this; omega
   unfold f18_b1
   refine zA2 hi ?_
   have hkw : (zBT (keys o.2.1)).getD i default∈keys w.2.2.1:=hA.ro _ (zBv.1 (zBV hi))
   have htk : (zBT (keys o.2.1)).take (i+1)=(zBT (keys o.2.1)).take i++[(zBT (keys o.2.1)).getD i default]:=zCx default hi
   generalize (zBT (keys o.2.1)).getD i default=k at hkw htk ⊢
   obtain ⟨r1,r2,r3,r4,r5⟩:=h.rk _ (zCR h.rn hkw)
   simp only at r1 r2 r3 r4 r5
   have hs3:=zCL hS r4
   have hrel : (mget s26.2.2.1 k).getD (0,([] : Str),[])=zBX w k:=by rw [g4 k hkw]; rfl
   rw [hrel,f60_eq _ (by have:=hs3.2; omega)]
   simp only [Option.bind_some]
   rw [zBS]
   refine (zAq (fun j (x:List Int)=>x.length=(zBX w k).2.2.length∧∀ m,m < (zBX w k).2.2.length→x.getD m default=if m < j then toOf s14 ((zBX w k).2.2.getD m default) else (zBX w k).2.2.getD m default) ⟨rfl,fun m hm=>by simp⟩ fun j x hj hx=>?_).bind fun q hq=>?_
   ·unfold f18_b3
    refine zA2 (by rw [hx.1]; exact hj) ?_
    rw [hx.2 j hj,if_neg (Nat.lt_irrefl j),f61_two]
    simp only [Option.bind_some]
    refine zAB ⟨_,rfl,by rw [List.length_set]; exact hx.1,fun m hm=>?_⟩
    rw [Int.toNat_natCast,getD_set (by rw [hx.1]; exact hj)]
    by_cases hmj : j=m
    ·subst hmj
     rw [if_pos rfl,if_pos (show j < j+1 by omega)]
     generalize (zBX w k).2.2.getD j default=y
     unfold toOf
     cases hg : mget s14 y with
     | none =>
      simp only [Option.getD_none,ne_eq,not_true_eq_false,if_false]
      by_cases h9 : y=0
      ·simp [h9]
      simp [h9]
     | some z =>
      have:=(h6 _ (mget_mem hg)).2.2
      simp only [Option.getD_some]
      rw [if_pos this]
    rw [if_neg hmj,hx.2 m hm]
    by_cases h9 : m < j
    ·rw [if_pos h9,if_pos (show m < j+1 by omega)]
    rw [if_neg h9,if_neg (show ¬ m < j+1 by omega)]
   obtain ⟨x,rfl,hx1,hx2⟩:=hq
   have hxe : x=(zBX w k).2.2.map (toOf s14):=ext_getD default (by rw [List.length_map]; exact hx1) fun m hm=>by
    rw [hx1] at hm
    rw [hx2 m hm,if_pos hm,getD_map hm]
   simp only
   have hxr : RelOk ss ((zBX w k).2.1,x):=by
    obtain ⟨t,ht,h6,h7⟩:=r4
    exact ⟨t,ht,h6,h7.trans hx1.symm⟩
   rw [f62_eq s26 (zBX w k).2.1 x (by have:=hs3.2; omega)]
   simp only [Option.bind_some]
   have hxo : ∀ q∈x,q∈keys s26.2.1:=fun q hq=>by
    rw [hxe] at hq
    obtain ⟨y,hy,rfl⟩:=List.mem_map.1 hq
    rw [g2]; exact hto y (r5 y hy)
   have hadd:=g1.addR (by omega) hxr hxo
   have hnf : s26.2.2.2.2∉keys s26.2.2.1:=fun hk=>by have:=g1.rkey _ hk; omega
   have hsr : ∀ k∈keys w.2.2.1,k∈keys s26.2.2.1:=fun k hk=>zBk.2 (by rw [g4 k hk]; exact zBk.1 hk)
   refine zAi (zBf (by rw [List.length_singleton]; omega)) (zAB ⟨_,rfl,?_,g2,?_,fun k' hk'=>?_,fun q hq=>?_,fun e he=>?_⟩)
   ·have : B+500+((i+1 : Nat) : Int)=B+500+(i:Int)+1:=by omega
    rw [this]; exact hadd
   ·simp only [List.map_append,g3,htk]; rfl
   ·show mget (mset s26.2.2.1 s26.2.2.2.2 _) k'=_
    rw [zC1,if_neg (show ¬ k'=s26.2.2.2.2 from fun he=>hnf (he ▸ hsr k' hk'))]; exact g4 k' hk'
   ·show mget (mset s26.2.2.1 s26.2.2.2.2 _) q.2=_
    rw [zC1]
    rcases List.mem_append.1 hq with h7 | h7
    ·rw [if_neg (show ¬ q.2=s26.2.2.2.2 from fun he=>hnf (he ▸ zBk.2 (by rw [g5 q h7]; rfl)))]; exact g5 q h7
    rw [List.mem_singleton] at h7; subst h7
    rw [if_pos rfl,hxe]
   rcases mset_mem he with h7 | h7
   ·refine .inr ⟨(k,s26.2.2.2.2),by simp,?_⟩
    rw [h7]
   rcases g6 e h7 with h8 | ⟨q,hq,h8⟩
   ·exact .inl h8
   exact .inr ⟨q,by simp [hq],h8⟩
  obtain ⟨⟨s26,s27⟩,rfl,g1,g2,g3,g4,g5,g6⟩:=hq
  simp only at g1 g2 g3 g4 g5 g6
  rw [List.take_length] at g3
  have hI2 : IW ss (B+1500) s26:=g1.mono (by omega)
  simp only
  rw [zBS]
  refine (zA1 (fun i _=>∀ j,j < i→NotFull ss s26.2.2.1 ((s27.getD j default).2,zBX s26 (s27.getD j default).2)) (fun _=>True) (fun j hj=>absurd hj (by omega)) fun i s hi hs=>?_).bind fun q hq=>?_
  ·unfold f18_b2
   refine zA2 hi ?_
   have hk : (s27.getD i default).2∈keys s26.2.2.1:=zBk.2 (by rw [g5 _ (zBV hi)]; rfl)
   obtain ⟨r1,r2,r3,r4,r5⟩:=hI2.rk _ (zCR hI2.rn hk)
   refine Tot.bind (f63_full hS hI2 (by omega) (e:=((s27.getD i default).2,zBX s26 (s27.getD i default).2)) r4) fun b hb=>?_
   refine zAR (fun _=>zAB (.inr ⟨_,rfl,trivial⟩)) (fun h7=>zAB (.inl ⟨_,rfl,fun j hj=>?_⟩))
   rcases Nat.lt_or_ge j i with h8 | h8
   ·exact hs j h8
   have : j=i:=by omega
   subst this; exact hb h7
  rcases hq with ⟨_,rfl,hnf⟩ | ⟨_,rfl,_⟩
  ·refine zAR (fun _=>zAB ⟨hm,hc,fun h=>h,.inl ⟨by simp,.inr (.inr (.inl rfl))⟩⟩) (fun h7=>zAB ⟨hI2,?_,fun hmx=>?_,.inr ⟨rfl,hf,o,ho,hA,hp,h4,g3,?_,?_,g4,g5⟩⟩)
   ·have:=of_decide_eq_false h7
    show s26.2.2.1.length≤1000; omega
   ·refine hmx.add hI2.rn fun e he=>?_
    rcases g6 e he with h8 | ⟨q,hq,h8⟩
    ·exact .inl h8
    right
    obtain ⟨j,hj,rfl⟩:=zB4 default hq
    have h9:=hnf j hj
    have h10 : e=((s27.getD j default).2,zBX s26 (s27.getD j default).2):=by
     refine Prod.ext h8.symm ?_
     show e.2=zBX s26 (s27.getD j default).2
     rw [h8,zBX,mem_mget hI2.rn he]; rfl
    rw [h10]; exact h9
   ·rw [g2]; exact h5
   rw [g2]; exact fun q hq=>⟨(h6 q hq).1,(h6 q hq).2.1⟩
  exact zAB ⟨hm,hc,fun h=>h,.inl ⟨by simp,.inl rfl⟩⟩
 exact zAB ⟨hm,hc,fun h=>h,.inl ⟨by simp,.inr (.inr (.inl rfl))⟩⟩
theorem tot_lrun {S R:Type}{b:S→Option (S ⊕ R)}(Inv:S→Prop) (μ:S→Nat) (Q:R→Prop) (h:∀ s,Inv s→Tot (b s) fun o=>(∃ s',o=.inl s'∧Inv s'∧μ s' < μ s)∨∃ r,o=.inr r∧Q r) : ∀ (k:Nat) (s:S),Inv s→μ s < k→Tot (lrun b k s) Q:=by
 intro k
 induction k with
 | zero=>intro s _ hk; omega
 | succ k ih =>
  intro s hs hk
  obtain ⟨o,h1,h2⟩:=h s hs
  simp only [lrun,h1,Option.bind_some]
  rcases h2 with ⟨s',rfl,h3,h4⟩ | ⟨r,rfl,h3⟩
  ·exact ih s' h3 (by omega)
  exact zAB h3
def univ (p:Int) (l:List (List Int)) : List Int:=p::l.flatten
theorem univ_len {p:Int} : ∀ {l:List (List Int)},(∀ x∈l,x.length≤3)→(univ p l).length≤1+3 * l.length:=by
 intro l
 induction l with
 | nil=>intro _; simp [univ]
 | cons x l ih =>
  intro h
  have h1:=ih fun y hy=>h y (List.mem_cons_of_mem _ hy)
  have h2:=h x (by simp)
  simp only [univ,List.length_cons,List.flatten_cons,List.length_append] at h1 ⊢
  omega
theorem f46_t {ss:List zBU}(hS:SS ss){B:Int}{w:PW}(h:IW ss B w) (hB:B≤1000000) (p n:Int) : Tot (f46 w p n) fun _=>True:=by
 unfold f46
 refine zAR (fun _=>zAB trivial) (fun _=>?_)
 refine (f50_t w [p]).bind fun x2 hx=>?_
 refine zAR (fun _=>zAB trivial) (fun h0=>?_)
 have h0' : x2=0:=by simpa using h0
 have hp : p∈keys w.2.1:=by
  rcases hx with ⟨h2,_⟩ | ⟨h2,_⟩ | ⟨_,_,h2⟩
  ·omega
  ·omega
  exact h2 p (by simp)
 have hUo : ∀ x∈univ p (w.2.2.1.map (·.2.2.2)),x∈keys w.2.1:=fun x hx=>by
  rcases List.mem_cons.1 hx with h1 | h1
  ·subst h1; exact hp
  obtain ⟨l,hl,h2⟩:=List.mem_flatten.1 h1
  obtain ⟨e,he,rfl⟩:=List.mem_map.1 hl
  exact (h.rk e he).2.2.2.2 x h2
 have hUl : (univ p (w.2.2.1.map (·.2.2.2))).length≤1+3 * w.2.2.1.length:=by
  have:=univ_len (p:=p) (l:=w.2.2.1.map (·.2.2.2)) fun x hx=>by
   obtain ⟨e,he,rfl⟩:=List.mem_map.1 hx
   exact (zCL hS (h.rk e he).2.2.2.1).2
  rw [List.length_map] at this; exact this
 have hUe : ∀ e∈w.2.2.1,∀ x∈e.2.2.2,x∈univ p (w.2.2.1.map (·.2.2.2)):=fun e he x hx =>
  List.mem_cons_of_mem _ (List.mem_flatten.2 ⟨_,List.mem_map.2 ⟨e,he,rfl⟩,hx⟩)
 have hUp : p∈univ p (w.2.2.1.map (·.2.2.2)):=by simp [univ]
 generalize univ p (w.2.2.1.map (·.2.2.2))=U at hUo hUl hUe hUp
 have hsl : ∀ s : BM,TS s→(∀ x∈keys s,x∈U)→s.length≤U.length:=fun s h1 h2=>by
  have:=zBj h1.1 h2
  rw [keys,List.length_map] at this; exact this
 refine (tot_lrun (b:=f46_b0 w) (fun s=>TS s.2.2∧(∀ x∈keys s.2.2,x∈U)∧1≤s.2.2.length) (fun s=>if (s.2.2.length : Int)=s.2.1 then 0 else 1+U.length - s.2.2.length) (fun r=>TS r∧∀ x∈keys r,x∈U) (fun s hs=>?_) _ _ ⟨TS.nil.set p,fun x hx=>?_,?_⟩ ?_).bind fun r hr=>?_
 ·obtain ⟨s6,s7,s8⟩:=s
  obtain ⟨h1,h2,h3⟩:=hs
  simp only at h1 h2 h3
  unfold f46_b0
  refine zAR (fun h4=>?_) (fun _=>zAB (.inr ⟨_,rfl,h1,h2⟩))
  simp only [Bool.and_eq_true,Bool.not_eq_true',decide_eq_false_iff_not] at h4
  simp only [zBs,Option.bind_some]
  refine (tot_mfold (fun s:BM=>TS s∧(∀ x∈keys s,x∈U)∧∀ x∈keys s8,x∈keys s) (fun _ _=>True) (fun s e he hs=>?_) ⟨h1,h2,fun x hx=>hx⟩).bind fun o ho=>?_
  ·unfold f46_m1
   rw [f66_eq (q:=fun y1=>f93 y1 s8) (fun y=>(mget s8 y).getD false) (fun y _=>rfl)]
   simp only [Option.bind_some]
   refine zAR (fun _=>?_) (fun _=>zAB ⟨_,rfl,hs,trivial,fun _ _=>trivial⟩)
   rw [zBS]
   refine (zAq (fun i (s:BM)=>TS s∧(∀ x∈keys s,x∈U)∧∀ x∈keys s8,x∈keys s) hs fun i s hi hs=>?_).bind fun o ho=>?_
   ·unfold f46_b2
    refine zA2 hi (zAB ⟨_,rfl,hs.1.set _,fun x hx=>?_,fun x hx=>zBc.2 (.inr (hs.2.2 x hx))⟩)
    rcases zBc.1 hx with h5 | h5
    ·subst h5; exact hUe e he _ (zBV hi)
    exact hs.2.1 x h5
   obtain ⟨s',rfl,h5⟩:=ho
   exact zAB ⟨_,rfl,h5,trivial,fun _ _=>trivial⟩
  obtain ⟨s,rfl,⟨h5,h6,h7⟩,_⟩:=ho
  have h8 : s8.length≤s.length:=by
   have:=zBj h1.1 h7
   rw [keys,keys,List.length_map,List.length_map] at this; exact this
  have h9:=hsl s h5 h6
  refine zAB (.inl ⟨_,rfl,⟨h5,h6,by show 1≤s.length; omega⟩,?_⟩)
  show (if (s.length : Int)=(s8.length : Int) then 0 else 1+U.length - s.length) < if (s8.length : Int)=s7 then 0 else 1+U.length - s8.length
  rw [if_neg h4.2]
  split <;> omega
 ·rcases zBc.1 hx with h1 | h1
  ·subst h1; exact hUp
  simp at h1
 ·exact Nat.le_refl 1
 ·show (if ((mset [] p true : BM).length : Int)=-1 then 0 else 1+U.length - (mset [] p true : BM).length) < _
  rw [if_neg (by omega)]
  have : (mset [] p true : BM).length=1:=rfl
  omega
 have hn:=h.no
 show Tot ((f52 r).bind fun x17=>some ((0:Int),x17)) _
 rw [f52_eq hr.1 (fun x hx=>h.ok x (hUo x (hr.2 x hx))) (by omega)]
 exact zAB trivial
structure IR (ss:List zBU) (B:Int) (w:RW) : Prop where
 srt : w.1=ss
 rk : ∀ e∈w.2.2.1,RelOk ss e.2
 ps : ∀ e∈w.2.2.1,0≤e.1
 ol : w.2.1.length≤2000
 rl : w.2.2.1.length≤2000
 nr : 0≤w.2.2.2.2∧w.2.2.2.2≤B
theorem IR.new {p:List zBU} : IR p 1 (p,[],[],1,1):=⟨rfl,fun e he=>by simp at he,fun e he=>by simp at he,by simp,by simp,⟨by simp,Int.le_refl _⟩⟩
theorem IR.mono {ss:List zBU}{B C:Int}{w:RW}(h:IR ss B w) (hC:B≤C) : IR ss C w:=⟨h.srt,h.rk,h.ps,h.ol,h.rl,⟨h.nr.1,by have:=h.nr.2; omega⟩⟩
theorem f81_t {ss:List zBU}{w:RW}(hw:w.1=ss) (nm:Str) : Tot (f81 w nm) fun r=>(r.2=true∧r.1∈ss∧r.1.1=nm)∨(r.2=false∧r.1=(([] : Str),([] : List RoleT))∧∀ s∈ss,s.1≠nm):=by
 subst hw
 unfold f81
 refine (zCE (p:=w.1) (g:=f81_b0 w nm) (fun s:zBU=>decide (s.1=nm)) (fun s=>(s.1,s.2)) (fun i s=>rfl)).bind fun o ho=>?_
 rcases ho with ⟨rfl,h1⟩ | ⟨i,hi,rfl,h1,_⟩
 ·refine zAB (.inr ⟨rfl,rfl,fun s hs he=>?_⟩)
  exact absurd (decide_eq_true he) (List.any_eq_false.1 h1 s hs)
 exact zAB (.inl ⟨rfl,zBV hi,of_decide_eq_true h1⟩)
theorem f81o_t {ss:List zBU}{w:RW}(hw:w.1=ss) (nm:Str) : Tot (f81o w nm) fun r=>(r.2=true∧r.1∈ss∧r.1.1=nm)∨(r.2=false∧r.1=(([] : Str),([] : List RoleT))∧∀ s∈ss,s.1≠nm):=f81_t hw nm
theorem rel_lenR {ss:List zBU}(hS:SS ss){B:Int}{w:RW}(h:IR ss B w){s:zBU}(hs:s∈ss){e:Int×Str×List Int}(he:e∈w.2.2.1) (hn:e.2.1=s.1) : e.2.2.length=s.2.length:=by
 obtain ⟨t,ht,h1,h2⟩:=h.rk e he
 have : t=s:=hS.uniq t ht s hs (h1.trans hn)
 rw [← h2,this]
theorem f83_t {w:RW}(ho:w.2.1.length≤100000) (hr:w.2.2.1.length≤100000) : f83 w=some ():=by
 unfold f83; rw [zBf (by omega),zBf (by omega)]; rfl
theorem f84_t {w:RW}(hr:w.2.2.1.length≤100000) (nm:Str){l:List Int}(hl:l.length≤100000) : f84 w nm l=some ():=by
 unfold f84; rw [zBf (by omega),zBf (by rw [List.length_singleton]; omega)]; rfl
theorem f113_t {ss:List zBU}(hS:SS ss){B:Int}{w:RW}(h:IR ss B w){s:zBU}(hs:s∈ss) (p1:Int){i:Nat}(hi:i < s.2.length) : Tot (f113 w p1 s.1 (i:Int)) fun _=>True:=by
 unfold f113
 rw [zBS]
 refine (zAq (fun _ _=>True) trivial fun j n hj _=>?_).bind fun o ho=>?_
 ·unfold f113_b0
  rw [zBW hj]
  simp only [Option.bind_some]
  refine Tot.bind (Q:=fun o=>∃ n,o=.inl n) (zAi ?_ (zAR (fun _=>zAB ⟨_,rfl⟩) fun _=>zAB ⟨_,rfl⟩)) fun o ho=>?_
  ·by_cases hn : (w.2.2.1.getD j default).2.1=s.1
   ·have:=rel_lenR hS h hs (zBV hj) hn
    rw [zBW (by omega)]; simp
   rw [decide_eq_false hn]; rfl
  obtain ⟨n,rfl⟩:=ho
  exact zAB ⟨_,rfl,trivial⟩
 obtain ⟨n,rfl,_⟩:=ho
 exact zAB trivial
theorem f85_t {ss:List zBU}(hS:SS ss){B:Int}{w:RW}(h:IR ss B w) : Tot (f85 w) fun _=>True:=by
 unfold f85
 rw [zBS]
 refine (zA1 (fun _ _=>True) (fun _=>True) trivial fun i u hi _=>?_).bind fun o ho=>?_
 ·unfold f85_b0
  refine zA2 hi ?_
  have hs : w.1.getD i default∈ss:=h.srt ▸ zBV hi
  generalize w.1.getD i default=s at hs
  rw [zBS]
  refine (zA1 (fun _ _=>True) (fun _=>True) trivial fun j u hj _=>?_).bind fun o ho=>?_
  ·unfold f85_b1
   refine zA2 hj ?_
   rw [zBS]
   refine (zA1 (fun _ _=>True) (fun _=>True) trivial fun k u hk _=>?_).bind fun o ho=>?_
   ·unfold f85_b2
    refine zA2 hk ?_
    obtain ⟨c,hc,_⟩:=f113_t hS h hs (w.2.1.getD k default).1 hj
    rw [hc]
    refine zAi (by simp) (zAR (fun _=>zAB (.inr ⟨_,rfl,trivial⟩)) (fun _=>zAB (.inl ⟨_,rfl,trivial⟩)))
   rcases ho with ⟨_,rfl,_⟩ | ⟨_,rfl,_⟩
   ·exact zAB (.inl ⟨_,rfl,trivial⟩)
   exact zAB (.inr ⟨_,rfl,trivial⟩)
  rcases ho with ⟨_,rfl,_⟩ | ⟨_,rfl,_⟩
  ·exact zAB (.inl ⟨_,rfl,trivial⟩)
  exact zAB (.inr ⟨_,rfl,trivial⟩)
 rcases ho with ⟨_,rfl,_⟩ | ⟨_,rfl,_⟩
 ·exact zAB trivial
 exact zAB trivial
theorem IR.addR {ss:List zBU}{B:Int}{w:RW}(h:IR ss B w) (hB:B≤1000000) (hl:w.2.2.1.length < 2000){nm:Str}{l:List Int}(hr:RelOk ss (nm,l)) : IR ss (B+1) (w.1,w.2.1,w.2.2.1++[(w.2.2.2.2,nm,l)],w.2.2.2.1,w64 (w.2.2.2.2+1)):=by
 have hn:=h.nr
 rw [zCb (by omega) (by omega)]
 exact ⟨h.srt,fun e he=>by
  rcases List.mem_append.1 he with h1 | h1
  ·exact h.rk e h1
  ·rw [List.mem_singleton] at h1; subst h1; exact hr,fun e he=>by
  rcases List.mem_append.1 he with h1 | h1
  ·exact h.ps e h1
  rw [List.mem_singleton] at h1; subst h1; exact hn.1,h.ol,by show (w.2.2.1++[(w.2.2.2.2,nm,l)]).length≤2000; rw [List.length_append,List.length_singleton]; omega,by show 0≤w.2.2.2.2+1; omega,by show w.2.2.2.2+1≤B+1; omega⟩
theorem f32_t {ss:List zBU}(hS:SS ss){B:Int}{w:RW}(hI:IR ss B w) (hB:B≤1000000) (ho:w.2.1.length≤1000) (hc:w.2.2.1.length≤1000){p1:Str}{p2:List Int}(hp:p1.length≤100000) : Tot (f32 w p1 p2) fun r=>IR ss (B+1) r.2.2:=by
 have h:=hI.mono (C:=B+1) (by omega)
 unfold f32
 rw [f80_eq p1 hp]
 simp only [Option.bind_some]
 refine zAR (fun _=>zAB h) (fun _=>?_)
 rw [zBS]
 refine (zA1 (fun _ _=>True) (fun _=>True) trivial fun i u hi _=>?_).bind fun o ho=>?_
 ·unfold f32_b0
  exact zA2 hi (zAR (fun _=>zAB (.inr ⟨_,rfl,trivial⟩)) (fun _=>zAB (.inl ⟨_,rfl,trivial⟩)))
 rcases ho with ⟨_,rfl,_⟩ | ⟨_,rfl,_⟩
 ·refine (f81o_t h.srt p1).bind fun x9 hx=>?_
  refine zAR (fun _=>zAB h) (fun h0=>?_)
  rcases hx with ⟨_,hs,hn⟩ | ⟨h1,_⟩
  ·refine (zA1 (fun _ _=>True) (fun _=>True) trivial fun i u hi _=>?_).bind fun o ho=>?_
   ·unfold f32_b1
    refine zA2 hi ?_
    rw [f82_eq]
    simp only [Option.bind_some]
    exact zAR (fun _=>zAB (.inr ⟨_,rfl,trivial⟩)) (fun _=>zAB (.inl ⟨_,rfl,trivial⟩))
   rcases ho with ⟨_,rfl,_⟩ | ⟨_,rfl,_⟩
   ·refine zAR (fun _=>zAB h) (fun hl=>?_)
    have hl' : p2.length=x9.1.2.length:=by
     simp only [Bool.not_eq_false',decide_eq_true_eq] at hl; omega
    have hr : RelOk ss (p1,p2):=⟨x9.1,hs,hn,hl'.symm⟩
    have h3:=(zCL hS hr).2
    rw [f83_t (by omega) (by omega),f84_t (by omega) p1 (by simp only at h3; omega)]
    simp only [Option.bind_some]
    have hA:=hI.addR hB (by omega) hr
    refine (f85_t hS hA).bind fun b _=>?_
    exact zAR (fun _=>zAB h) (fun _=>zAR (fun _=>zAB h) (fun _=>zAB hA))
   exact zAB h
  rw [h1] at h0; cases h0
 exact zAB h
theorem f36_t (w:RW) (k:Int) : Tot (f36 w k) fun r=>(r.2≠0∧((∀ e∈w.2.2.1,e.1≠k)∨k < 0))∨(r.2=0∧r.1∈w.2.2.1∧r.1.1=k):=by
 unfold f36
 refine zAR (fun h=>zAB (.inl ⟨by show (7:Int)≠0; decide,.inr (of_decide_eq_true h)⟩)) (fun _=>?_)
 refine (zCE (g:=f36_b0 w k) (fun x:Int×Str×List Int=>decide (x.1=k)) (fun x=>(x.1,x.2.1,x.2.2)) (fun i s=>rfl)).bind fun o ho=>?_
 rcases ho with ⟨rfl,h1⟩ | ⟨i,hi,rfl,h1,_⟩
 ·exact zAB (.inl ⟨by show (8:Int)≠0; decide,.inl fun e he h2=>List.any_eq_false.1 h1 e he (decide_eq_true h2)⟩)
 exact zAB (.inr ⟨rfl,zBV hi,of_decide_eq_true h1⟩)
theorem f35_t (w:RW) (k:Int) : Tot (f35 w k) fun _=>True:=by
 unfold f35
 refine zAR (fun h=>zAB trivial) (fun _=>?_)
 refine (zCE (g:=f35_b0 w k) (fun x:Int×Int×Str=>decide (x.1=k)) (fun x=>(x.1,x.2.1,x.2.2)) (fun i s=>rfl)).bind fun o ho=>?_
 rcases ho with ⟨rfl,h1⟩ | ⟨i,hi,rfl,h1,_⟩
 ·exact zAB trivial
 exact zAB trivial
theorem f86_t {ss:List zBU}{B:Int}{w:RW}(h:IR ss B w) (hc:w.2.2.1.length≤1000) (l:List Int) : Tot (f86 w l) fun r=>IR ss B r∧r.2.1=w.2.1∧r.2.2.1.length≤w.2.2.1.length:=by
 unfold f86
 rw [zBS]
 refine (zAq (fun i (s:List (Int×Str×List Int))=>s.length≤i∧∀ e∈s,e∈w.2.2.1) ⟨by simp,fun e he=>by simp at he⟩ fun i s hi hs=>?_).bind fun o ho=>?_
 ·unfold f86_b0
  rw [zBW hi]
  simp only [Option.bind_some,zCp]
  refine Tot.bind (Q:=fun o=>∃ s' : List (Int×Str×List Int),o=.inl s'∧s'.length≤i+1∧∀ e∈s',e∈w.2.2.1) (zAR (fun _=>zAi (zBf (by rw [List.length_singleton]; omega)) (zAB ⟨_,rfl,by rw [List.length_append,List.length_singleton]; omega,fun e he=>?_⟩)) fun _=>zAB ⟨_,rfl,by omega,hs.2⟩) fun o ho=>?_
  ·rcases List.mem_append.1 he with h1 | h1
   ·exact hs.2 e h1
   rw [List.mem_singleton] at h1; subst h1; exact zBV hi
  obtain ⟨s',rfl,h1⟩:=ho
  exact zAB ⟨_,rfl,h1⟩
 obtain ⟨s,rfl,h1,h2⟩:=ho
 exact zAB ⟨⟨h.srt,fun e he=>h.rk e (h2 e he),fun e he=>h.ps e (h2 e he),h.ol,Nat.le_trans h1 h.rl,h.nr⟩,rfl,h1⟩
theorem f34_t {ss:List zBU}{B:Int}{w:RW}(h:IR ss B w) (hc:w.2.2.1.length≤1000) (k:Int) : Tot (f34 w k) fun r=>IR ss B r.2:=by
 unfold f34
 refine (f36_t w k).bind fun x hx=>?_
 refine Tot.bind (Q:=fun o=>∃ w',o=.inl w'∧IR ss B w') (zAR (fun _=>(f86_t h hc [k]).bind fun r hr=>zAB ⟨_,rfl,hr.1⟩) fun _=>zAB ⟨_,rfl,h⟩) fun o ho=>?_
 obtain ⟨w',rfl,h1⟩:=ho
 exact zAB h1
theorem f48_t {ss:List zBU}{B:Int}{w:RW}(h:IR ss B w) (p1:Int) (p2:Str) : Tot (f48 w p1 p2) fun r=>IR ss B r.2.2:=by
 unfold f48
 refine zAR (fun _=>zAB h) (fun _=>?_)
 refine (zBN (show f91 p1=some _ from rfl)).bind fun b _=>?_
 refine zAR (fun _=>zAB h) (fun _=>zAR (fun _=>zAB h) (fun h1=>?_))
 have:=of_decide_eq_false h1
 exact zAi (zBf (by rw [List.length_singleton]; omega)) (zAB ⟨h.srt,h.rk,h.ps,by show (w.2.1++[_]).length≤2000; rw [List.length_append,List.length_singleton]; omega,h.rl,h.nr⟩)
theorem f114_t (s:zBU) (nm:Str) : Tot (f114 s nm) fun r=>r.2=true→0≤r.1∧r.1 < s.2.length:=by
 unfold f114
 rw [zBS]
 refine (zA1 (fun _ _=>True) (fun r:Int=>0≤r∧r < s.2.length) trivial fun i u hi _=>?_).bind fun o ho=>?_
 ·unfold f114_b0
  exact zA2 hi (zAR (fun _=>zAB (.inr ⟨_,rfl,by omega,by omega⟩)) (fun _=>zAB (.inl ⟨_,rfl,trivial⟩)))
 rcases ho with ⟨_,rfl,_⟩ | ⟨_,rfl,h⟩
 ·exact zAB fun h=>by cases h
 exact zAB fun _=>h
theorem f87_t {ss:List zBU}{B:Int}{w:RW}(h:IR ss B w) (p1:Int){p2:Str}{p3:List Str}(h2:p2.length≤100000) (h3:∀ y∈p3,y.length≤100000) (hl:p3.length≤100) : Tot (f87 w p1 p2 p3) fun r=>r.1=0→∃ s∈ss,s.1=p2∧r.2.length=p3.length∧∀ z∈r.2,0≤z∧z < s.2.length:=by
 unfold f87
 refine zAi (zBf (by rw [List.length_singleton]; omega)) ?_
 rw [zBS]
 refine (zA1 (fun _ _=>True) (fun _=>True) trivial fun i u hi _=>?_).bind fun o ho=>?_
 ·unfold f87_b0
  refine zA2 hi ?_
  have hm : ([p2]++p3).getD i default∈[p2]++p3:=zBV hi
  have hy : (([p2]++p3).getD i default).length≤100000:=by
   rcases List.mem_append.1 hm with h1 | h1
   ·rw [List.mem_singleton] at h1; rw [h1]; exact h2
   exact h3 _ h1
  rw [f80_eq _ hy]
  simp only [Option.bind_some]
  exact zAR (fun _=>zAB (.inr ⟨_,rfl,trivial⟩)) (fun _=>zAB (.inl ⟨_,rfl,trivial⟩))
 rcases ho with ⟨_,rfl,_⟩ | ⟨_,rfl,_⟩
 ·refine zAR (fun _=>zAB fun h=>absurd h (by decide)) (fun _=>?_)
  refine (f81_t h.srt p2).bind fun x8 hx=>?_
  refine zAR (fun _=>zAB fun h=>absurd h (by decide)) (fun h0=>?_)
  rcases hx with ⟨_,hs,hn⟩ | ⟨h1,_⟩
  ·rw [zBS]
   refine (zA1 (fun i l=>l.length=i∧∀ z : Int,z∈l→0≤z∧z < x8.1.2.length) (fun _=>True) ⟨rfl,fun z hz=>by simp at hz⟩ fun i l hi hl'=>?_).bind fun o ho=>?_
   ·unfold f87_b1
    refine zA2 hi ?_
    refine (f114_t x8.1 _).bind fun r hr=>?_
    refine zAR (fun _=>zAB (.inr ⟨_,rfl,trivial⟩)) (fun h6=>?_)
    refine zAi (zBf (by rw [List.length_singleton]; omega)) (zAB (.inl ⟨_,rfl,by rw [List.length_append,hl'.1]; rfl,fun z hz=>?_⟩))
    rcases List.mem_append.1 hz with hz | hz
    ·exact hl'.2 z hz
    rw [List.mem_singleton] at hz; subst hz
    exact hr (by simpa using h6)
   rcases ho with ⟨l,rfl,h5,h6⟩ | ⟨_,rfl,_⟩
   ·rw [f82_eq]
    simp only [Option.bind_some]
    exact zAR (fun _=>zAB fun h=>absurd h (by decide)) (fun _=>zAB fun _=>⟨x8.1,hs,hn,h5,h6⟩)
   exact zAB fun h=>absurd h (by decide)
  rw [h1] at h0; cases h0
 exact zAB fun h=>absurd h (by decide)
theorem f37_t {ss:List zBU}(hS:SS ss){B:Int}{w:RW}(h:IR ss B w) (hc:w.2.2.1.length≤1000) (p1:Int){p2 p3:Str}(h2:p2.length≤100000) (h3:p3.length≤100000) : Tot (f37 w p1 p2 p3) fun _=>True:=by
 unfold f37
 refine (f87_t h p1 h2 (p3:=[p3]) (fun y hy=>by rw [List.mem_singleton] at hy; subst hy; exact h3) (by simp)).bind fun x hx=>?_
 refine zAR (fun _=>zAB trivial) (fun h0=>?_)
 obtain ⟨s,hs,h4,h5,h6⟩:=hx (by simpa using h0)
 have hl : 0 < x.2.length:=by rw [h5]; exact Nat.zero_lt_one
 have hz : ix x.2 0=some (x.2.getD 0 default):=zBW (i:=0) hl
 have h7:=h6 _ (zBV (d:=default) hl)
 rw [zBS]
 refine (zAq (fun i (l:List Int)=>l.length≤i) (by simp) fun i l hi hl'=>?_).bind fun o ho=>?_
 ·unfold f37_b0
  rw [zBW hi,hz]
  simp only [Option.bind_some,Option.isSome_some,Bool.or_true,cond_true,Option.getD_some]
  refine Tot.bind (Q:=fun o=>∃ s' : List Int,o=.inl s'∧s'.length≤i+1) (zAi ?_ (zAR (fun _=>zAi (zBf (by rw [List.length_singleton]; omega)) (zAB ⟨_,rfl,by rw [List.length_append,List.length_singleton]; omega⟩)) fun _=>zAB ⟨_,rfl,by omega⟩)) fun o ho=>?_
  ·by_cases hn : (w.2.2.1.getD i default).2.1=p2
   ·have:=rel_lenR hS h hs (zBV hi) (hn.trans h4.symm)
    rw [ix_int h7.1 (by omega)]; simp
   rw [decide_eq_false hn]; rfl
  obtain ⟨s',rfl,h1⟩:=ho
  exact zAB ⟨_,rfl,h1⟩
 obtain ⟨l,rfl,_⟩:=ho
 exact zAB trivial
theorem f39_t {ss:List zBU}(hS:SS ss){B:Int}{w:RW}(h:IR ss B w) (ho:w.2.1.length≤1000) (p1:Int){p2 p3 p4:Str}(h2:p2.length≤100000) (h3:p3.length≤100000) (h4:p4.length≤100000) : Tot (f39 w p1 p2 p3 p4) fun _=>True:=by
 unfold f39
 refine (f87_t h p1 h2 (p3:=[p3,p4]) (fun y hy=>by
  rcases List.mem_cons.1 hy with hy | hy
  ·subst hy; exact h3
  rw [List.mem_singleton] at hy; subst hy; exact h4) (by simp)).bind fun x hx=>?_
 refine zAR (fun _=>zAB trivial) (fun h0=>?_)
 obtain ⟨s,hs,h4,h5,h6⟩:=hx (by simpa using h0)
 have hl : x.2.length=2:=h5
 have hz : ix x.2 0=some (x.2.getD 0 default):=zBW (i:=0) (by omega)
 have hy : ix x.2 1=some (x.2.getD 1 default):=zBW (i:=1) (by omega)
 have h7:=h6 _ (zBV (d:=default) (j:=0) (by omega))
 have h8:=h6 _ (zBV (d:=default) (j:=1) (by omega))
 rw [zBS]
 refine (zAq (fun i (l:List Int)=>l.length≤i) (by simp) fun i l hi hl'=>?_).bind fun o ho=>?_
 ·unfold f39_b0
  refine zA2 hi ?_
  rw [zBS]
  refine (zA1 (fun _ _=>True) (fun _=>True) trivial fun j u hj _=>?_).bind fun o ho=>?_
  ·unfold f39_b1
   rw [zBW hj,hz,hy]
   simp only [Option.bind_some,Option.isSome_some,Bool.or_true,cond_true,Option.getD_some]
   by_cases hn : (w.2.2.1.getD j default).2.1=p2
   ·have h9:=rel_lenR hS h hs (zBV hj) (hn.trans h4.symm)
    have e1 : Option.isSome (ix (w.2.2.1.getD j default).2.2 (x.2.getD 0 default))=true:=by rw [ix_int h7.1 (by omega)]; rfl
    have e2 : Option.isSome (ix (w.2.2.1.getD j default).2.2 (x.2.getD 1 default))=true:=by rw [ix_int h8.1 (by omega)]; rfl
    refine zAi (Bool.or_eq_true _ _ ▸ .inr e1) (zAi (Bool.or_eq_true _ _ ▸ .inr e2) ?_)
    exact zAR (fun _=>zAi (zBf (by rw [List.length_singleton]; omega)) (zAB (.inr ⟨_,rfl,trivial⟩))) (fun _=>zAB (.inl ⟨_,rfl,trivial⟩))
   rw [decide_eq_false hn]
   exact zAB (.inl ⟨_,rfl,trivial⟩)
  rcases ho with ⟨_,rfl,_⟩ | ⟨_,rfl,_⟩
  ·exact zAB ⟨_,rfl,by omega⟩
  exact zAB ⟨_,rfl,by rw [List.length_append,List.length_singleton]; omega⟩
 obtain ⟨l,rfl,_⟩:=ho
 exact zAB trivial
theorem f117_eq (r:RoleT) (z:Int) : Tot (f117 r z) fun _=>True:=by
 unfold f117
 exact zAR (fun _=>zAB trivial) (fun _=>zAR (fun _=>zAB trivial) (fun _=>zAB trivial))
structure RS (U K:List Int) (a b:List Int) : Prop where
 an : a.Nodup
 bn : b.Nodup
 au : ∀ x∈a,x∈U
 bk : ∀ x∈b,x∈K
theorem RS.lenA {U K a b:List Int}(h:RS U K a b) : a.length≤U.length:=zBj h.an h.au
theorem RS.lenB {U K a b:List Int}(h:RS U K a b) : b.length≤K.length:=zBj h.bn h.bk
theorem any_mem {l:List Int}{x:Int} : (l.any fun y=>decide (y=x))=true↔x∈l:=by
 rw [List.any_eq_true]; exact ⟨fun ⟨y,h1,h2⟩=>of_decide_eq_true h2 ▸ h1,fun h=>⟨x,h,decide_eq_true rfl⟩⟩
theorem nodup_snoc {l:List Int}{x:Int}(h:l.Nodup) (hx:x∉l) : (l++[x]).Nodup:=by
 rw [List.nodup_append]
 exact ⟨h,by simp,fun a ha b hb=>by rw [List.mem_singleton] at hb; subst hb; intro he; exact hx (he ▸ ha)⟩
def Grow (U K a0 b0:List Int) (f:Bool) (a b:List Int) : Prop:=RS U K a b∧a0.length+b0.length≤a.length+b.length∧(f=true→a0.length+b0.length < a.length+b.length)
theorem f90_b6_t {U K a0 b0:List Int}(hU:U.length≤100000){e:Int×Str×List Int}(he:∀ x∈e.2.2,x∈U){b:List Int}{z:Int}{i:Nat}(hi:i < e.2.2.length){f:Bool}{a:List Int}(h:Grow U K a0 b0 f a b) : Tot (f90_b6 e z (i:Int) (f,a)) fun o=>∃ f' a',o=.inl (f',a')∧Grow U K a0 b0 f' a' b:=by
 unfold f90_b6
 simp only
 rw [zBW hi]
 simp only [zCp,Option.bind_some,Option.isSome_some,Bool.or_true,cond_true,Option.getD_some]
 have hl:=h.1.lenA
 refine Tot.bind (Q:=fun o=>∃ f' a',o=.inl (f',a')∧Grow U K a0 b0 f' a' b) (zAR (fun h1=>zAi (zBf (by rw [List.length_singleton]; omega)) (zAB ⟨_,_,rfl,?_⟩)) fun _=>zAB ⟨_,_,rfl,h⟩) fun o ho=>?_
 ·rw [Bool.and_eq_true,Bool.not_eq_true'] at h1
  have hn : e.2.2.getD i default∉a:=fun hm=>by rw [any_mem.2 hm] at h1; exact absurd h1.2 (by simp)
  refine ⟨⟨nodup_snoc h.1.an hn,h.1.bn,fun x hx=>?_,h.1.bk⟩,?_,fun _=>?_⟩
  ·rcases List.mem_append.1 hx with h2 | h2
   ·exact h.1.au x h2
   rw [List.mem_singleton] at h2; subst h2; exact he _ (zBV hi)
  ·have:=h.2.1; rw [List.length_append,List.length_singleton]; omega
  have:=h.2.1; rw [List.length_append,List.length_singleton]; omega
 obtain ⟨f',a',rfl,h1⟩:=ho
 exact zAB ⟨f',a',rfl,h1⟩
theorem f90_b5_t {U K a0 b0:List Int}(hU:U.length≤100000) (hK:K.length≤100000){e:Int×Str×List Int}(he:∀ x∈e.2.2,x∈U) (hk:e.1∈K){z:Int}{x79:zBU×Bool}(hl:x79.1.2.length=e.2.2.length){i:Nat}(hi:i < e.2.2.length){f:Bool}{a b:List Int}(h:Grow U K a0 b0 f a b) : Tot (f90_b5 z e x79 (i:Int) (f,a,b)) fun o=>∃ f' a' b',o=.inl (f',a',b')∧Grow U K a0 b0 f' a' b':=by
 unfold f90_b5
 simp only
 rw [zBW hi,zBW (x:=x79.1.2) (by omega)]
 simp only [Option.bind_some,zCp]
 obtain ⟨c,hc,_⟩:=f117_eq (x79.1.2.getD i default) z
 rw [hc]
 simp only [Option.bind_some]
 refine Tot.bind (Q:=fun o=>∃ f' a' b',o=.inl (f',a',b')∧Grow U K a0 b0 f' a' b') (zAR (fun _=>zAB ⟨_,_,_,rfl,h⟩) fun _=>?_) fun o ho=>?_
 ·refine Tot.bind (Q:=fun o=>∃ f' b',o=.inl (f',b')∧Grow U K a0 b0 f' a b') ?_ fun o ho=>?_
  ·have hb:=h.1.lenB
   refine zAR (fun h1=>zAi (zBf (by rw [List.length_singleton]; omega)) (zAB ⟨_,_,rfl,?_⟩)) (fun _=>zAB ⟨_,_,rfl,h⟩)
   have hn : e.1∉b:=fun hm=>by rw [any_mem.2 hm] at h1; cases h1
   refine ⟨⟨h.1.an,nodup_snoc h.1.bn hn,h.1.au,fun x hx=>?_⟩,?_,fun _=>?_⟩
   ·rcases List.mem_append.1 hx with h2 | h2
    ·exact h.1.bk x h2
    rw [List.mem_singleton] at h2; subst h2; exact hk
   ·have:=h.2.1; rw [List.length_append,List.length_singleton]; omega
   have:=h.2.1; rw [List.length_append,List.length_singleton]; omega
  obtain ⟨f',b',rfl,h1⟩:=ho
  simp only
  rw [zBS]
  refine (zAq (fun _ (s:Bool×List Int)=>Grow U K a0 b0 s.1 s.2 b') h1 fun j s hj hs=>?_).bind fun o ho=>?_
  ·obtain ⟨f2,a2⟩:=s
   refine (f90_b6_t hU he hj hs).mono fun o ho=>?_
   obtain ⟨f3,a3,rfl,h3⟩:=ho
   exact ⟨_,rfl,h3⟩
  obtain ⟨⟨f2,a2⟩,rfl,h3⟩:=ho
  exact zAB ⟨_,_,_,rfl,h3⟩
 obtain ⟨f',a',b',rfl,h1⟩:=ho
 exact zAB ⟨_,_,_,rfl,h1⟩
theorem f90_b4_t {ss:List zBU}(hS:SS ss){B:Int}{w:RW}(h:IR ss B w){U a0 b0:List Int}(hU:U.length≤100000) (hK:w.2.2.1.length≤100000) (he:∀ e∈w.2.2.1,∀ x∈e.2.2,x∈U) (z:Int){i:Nat}(hi:i < w.2.2.1.length){f:Bool}{a b:List Int}(hG:Grow U (w.2.2.1.map (·.1)) a0 b0 f a b) : Tot (f90_b4 w z (i:Int) (f,a,b)) fun o=>∃ f' a' b',o=.inl (f',a',b')∧Grow U (w.2.2.1.map (·.1)) a0 b0 f' a' b':=by
 unfold f90_b4
 simp only
 rw [zBW hi]
 simp only [Option.bind_some]
 have hm : w.2.2.1.getD i default∈w.2.2.1:=zBV hi
 generalize w.2.2.1.getD i default=e at hm
 refine (f81_t h.srt e.2.1).bind fun x79 hx=>?_
 have hl : x79.1.2.length=e.2.2.length:=by
  obtain ⟨s,hs,h1,h2⟩:=h.rk e hm
  rcases hx with ⟨_,h3,h4⟩ | ⟨_,_,h3⟩
  ·rw [hS.uniq _ h3 s hs (h4.trans h1.symm)]; exact h2
  exact absurd h1 (h3 s hs)
 rw [zBS]
 refine (zAq (fun _ (s:Bool×List Int×List Int)=>Grow U (w.2.2.1.map (·.1)) a0 b0 s.1 s.2.1 s.2.2) hG fun j s hj hs=>?_).bind fun o ho=>?_
 ·obtain ⟨f2,a2,b2⟩:=s
  refine (f90_b5_t hU (by rw [List.length_map]; exact hK) (he e hm) (List.mem_map.2 ⟨e,hm,rfl⟩) hl hj hs).mono fun o ho=>?_
  obtain ⟨f3,a3,b3,rfl,h3⟩:=ho
  exact ⟨_,rfl,h3⟩
 obtain ⟨⟨f2,a2,b2⟩,rfl,h3⟩:=ho
 exact zAB ⟨_,_,_,rfl,h3⟩
theorem f90_loop {ss:List zBU}(hS:SS ss){B:Int}{w:RW}(h:IR ss B w) (hK:w.2.2.1.length≤1000) (p z:Int) : Tot (lrun (f90_b0 w z) (List.length w.2.1+List.length w.2.2.1 * 4+4) (true,[p],([] : List Int))) fun o=>RS (univ p (w.2.2.1.map (·.2.2))) (w.2.2.1.map (·.1)) o.1 o.2:=by
 have hUl : (univ p (w.2.2.1.map (·.2.2))).length≤1+3 * w.2.2.1.length:=by
  have:=univ_len (p:=p) (l:=w.2.2.1.map (·.2.2)) fun x hx=>by
   obtain ⟨e,he,rfl⟩:=List.mem_map.1 hx
   exact (zCL hS (h.rk e he)).2
  rw [List.length_map] at this; exact this
 have hUe : ∀ e∈w.2.2.1,∀ x∈e.2.2,x∈univ p (w.2.2.1.map (·.2.2)):=fun e he x hx =>
  List.mem_cons_of_mem _ (List.mem_flatten.2 ⟨_,List.mem_map.2 ⟨e,he,rfl⟩,hx⟩)
 have hUp : p∈univ p (w.2.2.1.map (·.2.2)):=by simp [univ]
 have hKl : (w.2.2.1.map (·.1)).length=w.2.2.1.length:=List.length_map _
 generalize univ p (w.2.2.1.map (·.2.2))=U at hUl hUe hUp ⊢
 refine tot_lrun (b:=f90_b0 w z) (fun s=>RS U (w.2.2.1.map (·.1)) s.2.1 s.2.2) (fun s=>if s.1=true then 1+U.length+w.2.2.1.length - (s.2.1.length+s.2.2.length) else 0) _ (fun s hs=>?_) _ _ ⟨by simp,List.nodup_nil,fun x hx=>by rw [List.mem_singleton] at hx; subst hx; exact hUp,fun x hx=>by simp at hx⟩ ?_
 ·obtain ⟨f,a,b⟩:=s
  unfold f90_b0
  refine zAR (fun hf=>?_) (fun _=>zAB (.inr ⟨_,rfl,hs⟩))
  subst hf
  rw [zBS]
  refine (zAq (fun _ (s:Bool×List Int×List Int)=>Grow U (w.2.2.1.map (·.1)) a b s.1 s.2.1 s.2.2) ⟨hs,Nat.le_refl _,fun h=>by cases h⟩ fun j s hj hs=>?_).bind fun o ho=>?_
  ·obtain ⟨f2,a2,b2⟩:=s
   refine (f90_b4_t hS h (by omega) (by omega) hUe z hj hs).mono fun o ho=>?_
   obtain ⟨f3,a3,b3,rfl,h3⟩:=ho
   exact ⟨_,rfl,h3⟩
  obtain ⟨⟨f2,a2,b2⟩,rfl,h3⟩:=ho
  have l1:=h3.1.lenA
  have l2:=h3.1.lenB
  have l3:=hs.lenA
  have l4:=hs.lenB
  simp only at l1 l2 l3 l4
  refine zAB (.inl ⟨_,rfl,h3.1,?_⟩)
  have h4:=h3.2.2
  simp only at h4 ⊢
  cases f2
  ·simp only [Bool.false_eq_true,if_false,if_true]; omega
  have:=h4 rfl
  simp only [if_true]; omega
 simp only [if_true,List.length_singleton,List.length_nil]; omega
theorem f90_t {ss:List zBU}(hS:SS ss){B:Int}{w:RW}(h:IR ss B w) (ho:w.2.1.length≤1000) (hK:w.2.2.1.length≤1000) (p z:Int) : Tot (f90 w p z) fun r=>r.1.length≤w.2.1.length∧r.2.1.length≤w.2.2.1.length∧∀ k∈r.2.1,∃ e∈w.2.2.1,e.1=k:=by
 unfold f90
 refine (f90_loop hS h hK p z).bind fun o _=>?_
 obtain ⟨a,b⟩:=o
 simp only
 rw [zBS]
 refine (zAq (fun i (s:List Int×List Int)=>s.1.length≤i∧s.2.length≤i) ⟨by simp,by simp⟩ fun i s hi hs=>?_).bind fun o ho=>?_
 ·obtain ⟨s17,s18⟩:=s
  obtain ⟨h1,h2⟩:=hs
  simp only at h1 h2
  unfold f90_b1
  simp only
  rw [zBW hi]
  simp only [Option.bind_some,zCp]
  refine Tot.bind (Q:=fun o=>∃ s' : List Int×List Int,o=.inl s'∧s'.1.length≤i+1∧s'.2.length≤i+1) (zAR (fun _=>zAi (zBf (by rw [List.length_singleton]; omega)) (zAB ⟨_,rfl,by simp only [List.length_append,List.length_singleton]; omega,by simp only; omega⟩)) fun _=>?_) fun o ho=>?_
  ·rw [zBS]
   refine (zA1 (fun _ _=>True) (fun _=>True) trivial fun j u hj _=>?_).bind fun o ho=>?_
   ·unfold f90_b3
    rw [zBW hj]
    simp only [Option.bind_some,zCp,Option.isSome_some,Bool.or_true,cond_true]
    exact zAR (fun _=>zAi (zBf (by rw [List.length_singleton]; omega)) (zAB (.inr ⟨_,rfl,trivial⟩))) (fun _=>zAB (.inl ⟨_,rfl,trivial⟩))
   rcases ho with ⟨_,rfl,_⟩ | ⟨_,rfl,_⟩
   ·exact zAB ⟨_,rfl,by simp only; omega,by simp only; omega⟩
   exact zAB ⟨_,rfl,by simp only; omega,by simp only [List.length_append,List.length_singleton]; omega⟩
  obtain ⟨⟨x,y⟩,rfl,h3⟩:=ho
  exact zAB ⟨_,rfl,h3⟩
 obtain ⟨⟨x,y⟩,rfl,h3,h4⟩:=ho
 simp only at h3 h4
 simp only
 rw [zBS]
 refine (zAq (fun i (s:List Int)=>s.length≤i∧∀ k∈s,∃ e∈w.2.2.1,e.1=k) ⟨by simp,fun k hk=>by simp at hk⟩ fun i s hi hs=>?_).bind fun o ho=>?_
 ·unfold f90_b2
  rw [zBW hi]
  simp only [Option.bind_some,zCp]
  refine Tot.bind (Q:=fun o=>∃ s' : List Int,o=.inl s'∧s'.length≤i+1∧∀ k∈s',∃ e∈w.2.2.1,e.1=k) (zAR (fun _=>zAi (zBf (by rw [List.length_singleton]; omega)) (zAB ⟨_,rfl,by rw [List.length_append,List.length_singleton]; omega,fun k hk=>?_⟩)) fun _=>zAB ⟨_,rfl,by omega,hs.2⟩) fun o ho=>?_
  ·rcases List.mem_append.1 hk with h5 | h5
   ·exact hs.2 k h5
   rw [List.mem_singleton] at h5; subst h5; exact ⟨_,zBV hi,rfl⟩
  obtain ⟨s',rfl,h5⟩:=ho
  exact zAB ⟨_,rfl,h5⟩
 obtain ⟨s,rfl,h5,h6⟩:=ho
 exact zAB ⟨h3,h5,h6⟩
theorem f40_t {ss:List zBU}(hS:SS ss){B:Int}{w:RW}(h:IR ss B w) (ho:w.2.1.length≤1000) (hK:w.2.2.1.length≤1000) (p z:Int) : Tot (f40 w p z) fun _=>True:=by
 unfold f40
 refine zAR (fun _=>zAB trivial) (fun _=>?_)
 rw [f82_eq]
 simp only [Option.bind_some]
 refine zAR (fun _=>zAB trivial) (fun _=>?_)
 exact (f90_t hS h ho hK p z).bind fun _ _=>zAB trivial
theorem f44_t {ss:List zBU}(hS:SS ss){B:Int}{w:RW}(h:IR ss B w) (ho:w.2.1.length≤1000) (hK:w.2.2.1.length≤1000) (p v:Int) : Tot (f44 w p v) fun r=>IR ss B r.2.2:=by
 unfold f44
 refine (zBN (show f91 v=some _ from rfl)).bind fun b _=>?_
 refine zAR (fun _=>zAB h) (fun _=>?_)
 rw [f82_eq]
 simp only [Option.bind_some]
 refine zAR (fun _=>zAB h) (fun _=>?_)
 refine (f90_t hS h ho hK p 2).bind fun x8 _=>?_
 rw [zBS]
 refine (zAq (fun i (s:List (Int×Int×Str))=>s.length=w.2.1.length) rfl fun i s hi hs=>?_).bind fun o ho=>?_
 ·unfold f44_b0
  rw [zBW (by omega)]
  simp only [Option.bind_some,zCp]
  refine Tot.bind (Q:=fun o=>∃ s' : List (Int×Int×Str),o=.inl s'∧s'.length=w.2.1.length) (zAR (fun _=>zAB ⟨_,rfl,by rw [List.length_set]; exact hs⟩) fun _=>zAB ⟨_,rfl,hs⟩) fun o ho=>?_
  obtain ⟨s',rfl,h5⟩:=ho
  exact zAB ⟨_,rfl,h5⟩
 obtain ⟨s,rfl,hl⟩:=ho
 exact zAB ⟨h.srt,h.rk,h.ps,by show s.length≤2000; omega,h.rl,h.nr⟩
theorem f45_t {ss:List zBU}(hS:SS ss){B:Int}{w:RW}(h:IR ss B w) (ho:w.2.1.length≤1000) (hK:w.2.2.1.length≤1000) (p:Int) : Tot (f45 w p) fun r=>IR ss B r.2.2.2:=by
 unfold f45
 refine zAR (fun _=>zAB h) (fun _=>?_)
 rw [f82_eq]
 simp only [Option.bind_some]
 refine zAR (fun _=>zAB h) (fun _=>?_)
 refine (f90_t hS h ho hK p 3).bind fun x6 _=>?_
 rw [zBS]
 refine (zAq (fun i (s:List Int)=>s.length≤i) (by simp) fun i s hi hs=>?_).bind fun o ho'=>?_
 ·unfold f45_b0
  rw [zBW hi]
  simp only [Option.bind_some,zCp]
  rw [zBS]
  refine Tot.bind (Q:=fun o=>∃ s' : List Int,o=.inl s'∧s'.length≤i+1) ?_ fun o ho=>?_
  ·refine (zAq (fun _ (_:Bool)=>True) trivial fun j b hj _=>?_).bind fun o ho=>?_
   ·unfold f45_b2
    rw [zBW hj]
    simp only [Option.bind_some,zCp,Option.isSome_some,Bool.or_true,cond_true]
    exact zAB ⟨_,rfl,trivial⟩
   obtain ⟨b,rfl,_⟩:=ho
   exact zAR (fun _=>zAi (zBf (by rw [List.length_singleton]; omega)) (zAB ⟨_,rfl,by rw [List.length_append,List.length_singleton]; omega⟩)) fun _=>zAB ⟨_,rfl,by omega⟩
  obtain ⟨s',rfl,h5⟩:=ho
  exact zAB ⟨_,rfl,h5⟩
 obtain ⟨s,rfl,_⟩:=ho'
 refine (f86_t h hK s).bind fun x15 hx=>?_
 rw [zBS]
 refine (zAq (fun i (s:List (Int×Int×Str))=>s.length≤i) (by simp) fun i s hi hs=>?_).bind fun o ho'=>?_
 ·unfold f45_b1
  rw [zBW hi]
  rw [hx.2.1] at hi
  simp only [Option.bind_some,zCp]
  refine Tot.bind (Q:=fun o=>∃ s' : List (Int×Int×Str),o=.inl s'∧s'.length≤i+1) (zAR (fun _=>zAi (zBf (by rw [List.length_singleton]; omega)) (zAB ⟨_,rfl,by rw [List.length_append,List.length_singleton]; omega⟩)) fun _=>zAB ⟨_,rfl,by omega⟩) fun o ho=>?_
  obtain ⟨s',rfl,h5⟩:=ho
  exact zAB ⟨_,rfl,h5⟩
 obtain ⟨s,rfl,hl⟩:=ho'
 exact zAB ⟨hx.1.srt,hx.1.rk,hx.1.ps,by show s.length≤2000; rw [hx.2.1] at hl; omega,hx.1.rl,hx.1.nr⟩
theorem f47_t {ss:List zBU}(hS:SS ss){B:Int}{w:RW}(h:IR ss B w) (ho:w.2.1.length≤1000) (hK:w.2.2.1.length≤1000) (p n:Int) : Tot (f47 w p n) fun _=>True:=by
 unfold f47
 refine zAR (fun _=>zAB trivial) (fun _=>?_)
 rw [f82_eq]
 simp only [Option.bind_some]
 refine zAR (fun _=>zAB trivial) (fun _=>?_)
 have hUl : (univ p (w.2.2.1.map (·.2.2))).length≤1+3 * w.2.2.1.length:=by
  have:=univ_len (p:=p) (l:=w.2.2.1.map (·.2.2)) fun x hx=>by
   obtain ⟨e,he,rfl⟩:=List.mem_map.1 hx
   exact (zCL hS (h.rk e he)).2
  rw [List.length_map] at this; exact this
 have hUe : ∀ e∈w.2.2.1,∀ x∈e.2.2,x∈univ p (w.2.2.1.map (·.2.2)):=fun e he x hx =>
  List.mem_cons_of_mem _ (List.mem_flatten.2 ⟨_,List.mem_map.2 ⟨e,he,rfl⟩,hx⟩)
 have hUp : p∈univ p (w.2.2.1.map (·.2.2)):=by simp [univ]
 generalize univ p (w.2.2.1.map (·.2.2))=U at hUl hUe hUp
 refine (tot_lrun (b:=f47_b0 w n) (fun s=>0≤s.1∧s.1≤w.2.1.length∧s.2.Nodup∧∀ x∈s.2,x∈U) (fun s=>(w.2.1.length - s.1).toNat) (fun _=>True) (fun s hs=>?_) _ _ ⟨Int.le_refl _,by show (0:Int)≤_; omega,by simp,fun x hx=>by rw [List.mem_singleton] at hx; subst hx; exact hUp⟩ (by simp only; omega)).bind fun r _=>?_
 ·obtain ⟨s6,s7⟩:=s
  obtain ⟨h1,h2,h3,h4⟩:=hs
  simp only at h1 h2 h3 h4
  unfold f47_b0
  refine zAR (fun h5=>?_) (fun _=>zAB (.inr ⟨_,rfl,trivial⟩))
  have h5':=of_decide_eq_true h5
  have h6 : s6 < w.2.1.length:=by omega
  have h7:=zBj h3 h4
  refine zAi (zBf (by omega)) ?_
  rw [zBS]
  refine (zAq (fun _ (s:List Int)=>s.Nodup∧∀ x∈s,x∈U) ⟨h3,h4⟩ fun i s hi hs=>?_).bind fun o ho=>?_
  ·unfold f47_b2
   refine zA2 hi ?_
   have hm : w.2.2.1.getD i default∈w.2.2.1:=zBV hi
   generalize w.2.2.1.getD i default=e at hm
   rw [zBS]
   refine (zAq (fun _ (_:Bool)=>True) trivial fun j b hj _=>?_).bind fun o ho=>?_
   ·unfold f47_b3
    rw [zBW hj]
    simp only [Option.bind_some,zCp,Option.isSome_some,Bool.or_true,cond_true]
    exact zAB ⟨_,rfl,trivial⟩
   obtain ⟨b,rfl,_⟩:=ho
   refine (zAq (fun _ (s:List Int)=>s.Nodup∧∀ x∈s,x∈U) hs fun j s hj hs=>?_).bind fun o ho=>?_
   ·unfold f47_b4
    rw [zBW hj]
    simp only [Option.bind_some,zCp,Option.isSome_some,Bool.or_true,cond_true,Option.getD_some]
    have h8:=zBj hs.1 hs.2
    refine Tot.bind (Q:=fun o=>∃ s' : List Int,o=.inl s'∧s'.Nodup∧∀ x∈s',x∈U) (zAR (fun h9=>zAi (zBf (by rw [List.length_singleton]; omega)) (zAB ⟨_,rfl,nodup_snoc hs.1 fun hm=>?_,fun x hx=>?_⟩)) fun _=>zAB ⟨_,rfl,hs⟩) fun o ho=>?_
    ·rw [any_mem.2 hm] at h9; simp at h9
    ·rcases List.mem_append.1 hx with h10 | h10
     ·exact hs.2 x h10
     rw [List.mem_singleton] at h10; subst h10; exact hUe e hm _ (zBV hj)
    obtain ⟨s',rfl,h10⟩:=ho
    exact zAB ⟨_,rfl,h10⟩
   obtain ⟨s',rfl,h10⟩:=ho
   exact zAB ⟨_,rfl,h10⟩
  obtain ⟨s',rfl,h10⟩:=ho
  have e1 : w64 (s6+1)=s6+1:=zCb (by omega) (by omega)
  refine zAB (.inl ⟨_,rfl,⟨?_,?_,h10⟩,?_⟩)
  ·simp only [e1]; omega
  ·simp only [e1]; omega
  simp only [e1]; omega
 show Tot ((rng (f47_b1 w r) (Int.toNat (List.length w.2.1 : Int)) 0 ([] : List Int)).bind _) _
 rw [zBS]
 refine (zAq (fun i (s:List Int)=>s.length≤i) (by simp) fun i s hi hs=>?_).bind fun o ho'=>?_
 ·unfold f47_b1
  rw [zBW hi]
  simp only [Option.bind_some,zCp]
  refine Tot.bind (Q:=fun o=>∃ s' : List Int,o=.inl s'∧s'.length≤i+1) (zAR (fun _=>zAi (zBf (by rw [List.length_singleton]; omega)) (zAB ⟨_,rfl,by rw [List.length_append,List.length_singleton]; omega⟩)) fun _=>zAB ⟨_,rfl,by omega⟩) fun o ho=>?_
  obtain ⟨s',rfl,h5⟩:=ho
  exact zAB ⟨_,rfl,h5⟩
 obtain ⟨s,rfl,_⟩:=ho'
 exact zAB trivial
theorem f41_t {ss:List zBU}(hS:SS ss){B:Int}{w:RW}(h:IR ss B w) (hB:B≤900000) (ho:w.2.1.length≤500) (hK:w.2.2.1.length≤500) (p v:Int) : Tot (f41 w p v) fun r=>IR ss (B+1000) r.2.2.2:=by
 have hm:=h.mono (C:=B+1000) (by omega)
 unfold f41
 refine (zBN (show f91 v=some _ from rfl)).bind fun b _=>?_
 refine zAR (fun _=>zAB hm) (fun _=>?_)
 rw [f82_eq]
 simp only [Option.bind_some]
 refine zAR (fun _=>zAB hm) (fun _=>?_)
 refine (f90_t hS h (by omega) (by omega) p 1).bind fun x8 hx=>?_
 obtain ⟨hx1,hx2,hx3⟩:=hx
 rw [f83_t (by omega) (by omega)]
 simp only [Option.bind_some]
 rw [zBS]
 refine (zAq (fun i (s:List (Int×Int)×RW)=>s.1.length≤i∧s.2.1=w.1∧s.2.2.1.length≤w.2.1.length+i∧s.2.2.2.1=w.2.2.1∧s.2.2.2.2.2=w.2.2.2.2) ⟨by simp,rfl,by simp,rfl,rfl⟩ fun i s hi hs=>?_).bind fun o ho'=>?_
 ·obtain ⟨s14,s15⟩:=s
  obtain ⟨h1,h2,h3,h4,h5⟩:=hs
  simp only at h1 h2 h3 h4 h5
  unfold f41_b0
  refine zA2 hi ?_
  refine (f35_t w _).bind fun x66 _=>?_
  refine zAi (zBf (by rw [List.length_singleton]; omega)) (zAi (zBf (by rw [List.length_singleton]; omega)) (zAB ⟨_,rfl,?_,h2,?_,h4,h5⟩))
  ·simp only [List.length_append,List.length_singleton]; omega
  simp only [List.length_append,List.length_singleton]; omega
 obtain ⟨⟨s14,s15⟩,rfl,h1,h2,h3,h4,h5⟩:=ho'
 simp only at h1 h2 h3 h4 h5
 simp only
 rw [zBS]
 refine (zAq (fun i (s:List (Int×Int)×RW)=>s.1.length≤i∧s.2.1=w.1∧s.2.2.1=s15.2.1∧s.2.2.2.1.length≤w.2.2.1.length+i∧(∀ e∈s.2.2.2.1,RelOk ss e.2∧0≤e.1)∧0≤s.2.2.2.2.2∧s.2.2.2.2.2≤B+i) ⟨by simp,h2,rfl,by simp only [h4]; omega,fun e he=>?_,by simp only [h5]; exact h.nr.1,by simp only [h5]; have:=h.nr.2; omega⟩ fun i s hi hs=>?_).bind fun o ho'=>?_
 ·simp only [h4] at he; exact ⟨h.rk e he,h.ps e he⟩
 ·obtain ⟨s23,s24⟩:=s
  obtain ⟨g1,g2,g3,g4,g5,g6,g7⟩:=hs
  simp only at g1 g2 g3 g4 g5 g6 g7
  unfold f41_b1
  refine zA2 hi ?_
  have hk:=hx3 _ (zBV (d:=default) hi)
  generalize x8.2.1.getD i default=k at hk
  refine (f36_t w k).bind fun x37 hx=>?_
  obtain ⟨e,he,rfl⟩:=hk
  have he' : x37.1∈w.2.2.1:=by
   rcases hx with ⟨_,h6 | h6⟩ | ⟨_,h6,_⟩
   ·exact absurd rfl (h6 e he)
   ·have:=h.ps e he; omega
   exact h6
  have hr:=h.rk _ he'
  have h3':=(zCL hS hr).2
  rw [zBS]
  refine (zAq (fun j (s:List Int)=>s.length=j) rfl fun j s hj hs=>?_).bind fun o ho'=>?_
  ·unfold f41_b2
   refine zA2 hj ?_
   rw [zBS]
   have hany:=zCE (g:=f41_b3 s14 (x37.1.2.2.getD j default)) (fun x:Int×Int=>decide (x.1=x37.1.2.2.getD j default)) (fun x=>x.2) (fun i s=>rfl)
   rw [zBS] at hany
   refine hany.bind fun o ho'=>?_
   rcases ho' with ⟨rfl,_⟩ | ⟨_,_,rfl,_⟩
   ·exact zAi (zBf (by rw [List.length_singleton]; omega)) (zAB ⟨_,rfl,by rw [List.length_append,hs]; rfl⟩)
   exact zAi (zBf (by rw [List.length_singleton]; omega)) (zAB ⟨_,rfl,by rw [List.length_append,hs]; rfl⟩)
  obtain ⟨s41,rfl,hl⟩:=ho'
  refine zAi (zBf (by rw [List.length_singleton]; omega)) ?_
  rw [f84_t (by omega) _ (by omega)]
  have e1 : w64 (s24.2.2.2.2+1)=s24.2.2.2.2+1:=zCb (by omega) (by omega)
  refine zAB ⟨_,rfl,?_,g2,g3,?_,fun e he=>?_,?_,?_⟩
  ·simp only [List.length_append,List.length_singleton]; omega
  ·simp only [List.length_append,List.length_singleton]; omega
  ·rcases List.mem_append.1 he with h6 | h6
   ·exact g5 e h6
   rw [List.mem_singleton] at h6; subst h6
   obtain ⟨t,ht,h7,h8⟩:=hr
   exact ⟨⟨t,ht,h7,h8.trans hl.symm⟩,g6⟩
  ·simp only [e1]; omega
  simp only [e1]; omega
 obtain ⟨⟨s23,s24⟩,rfl,g1,g2,g3,g4,g5,g6,g7⟩:=ho'
 simp only at g1 g2 g3 g4 g5 g6 g7
 have hI : IR ss (B+1000) s24:=⟨g2.trans h.srt,fun e he=>(g5 e he).1,fun e he=>(g5 e he).2,by rw [g3]; omega,by omega,⟨g6,by omega⟩⟩
 simp only
 refine (f85_t hS hI).bind fun b _=>?_
 exact zAR (fun _=>zAB hm) (fun _=>zAR (fun _=>zAB hm) (fun _=>zAB hI))
theorem pair_tot {α:Type} [Inhabited α] {p q:List α}{g:Int→Unit→Option (Unit ⊕ Unit)}(f:α→α→Bool) (hg:∀ i s,g i s=(ix p i).bind fun x=>(ix q i).bind fun y=>bif f x y then some (.inr ()) else some (.inl ())) (hl:p.length=q.length) :
  Tot (rng g (Int.toNat (List.length p : Int)) 0 ()) fun o=>(o=.inl ()∧∀ i,i < p.length→f (p.getD i default) (q.getD i default)=false)∨(o=.inr ()∧∃ i,i < p.length∧f (p.getD i default) (q.getD i default)=true):=by
 refine zCs (fun i x=>f x (q.getD i default)) fun i s hi=>?_
 rw [hg,zBW hi,zBW (by omega)]; rfl
theorem list_eq {α:Type} [Inhabited α] {p q:List α}(hl:p.length=q.length) (h:∀ i,i < p.length→p.getD i default=q.getD i default) : p=q:=ext_getD default hl h
theorem f21_eq (p q:List Int) : f21 p q=some (decide (p=q)):=by
 have h : Tot (f21 p q) (fun b=>b=decide (p=q)):=by
  unfold f21
  refine zAR (fun h1=>⟨_,rfl,?_⟩) (fun h1=>?_)
  ·simp only [Bool.not_eq_true',decide_eq_false_iff_not] at h1
   show false=decide (p=q); symm; rw [decide_eq_false_iff_not]; intro he; exact h1 (by rw [he])
  have hl : p.length=q.length:=by simp only [Bool.not_eq_false',decide_eq_true_eq] at h1; omega
  refine (pair_tot (g:=f21_b0 p q) (fun x y=>!decide (x=y)) (fun i s=>rfl) hl).bind fun o ho=>?_
  rcases ho with ⟨rfl,h2⟩ | ⟨rfl,i,hi,h2⟩
  ·refine ⟨_,rfl,?_⟩
   show true=decide (p=q); symm; rw [decide_eq_true_eq]
   exact list_eq hl fun i hi=>by have:=h2 i hi; simpa using this
  refine ⟨_,rfl,?_⟩
  show false=decide (p=q); symm; rw [decide_eq_false_iff_not]; intro he; subst he; simp at h2
 exact h.eq
theorem f42_eq (p q:List (Int×Int)) : f42 p q=some (decide (p=q)):=by
 have h : Tot (f42 p q) (fun b=>b=decide (p=q)):=by
  unfold f42
  refine zAR (fun h1=>⟨_,rfl,?_⟩) (fun h1=>?_)
  ·simp only [Bool.not_eq_true',decide_eq_false_iff_not] at h1
   show false=decide (p=q); symm; rw [decide_eq_false_iff_not]; intro he; exact h1 (by rw [he])
  have hl : p.length=q.length:=by simp only [Bool.not_eq_false',decide_eq_true_eq] at h1; omega
  refine (pair_tot (g:=f42_b0 p q) (fun x y=>!(decide (x.1=y.1)&&decide (x.2=y.2))) (fun i s=>rfl) hl).bind fun o ho=>?_
  rcases ho with ⟨rfl,h2⟩ | ⟨rfl,i,hi,h2⟩
  ·refine ⟨_,rfl,?_⟩
   show true=decide (p=q); symm; rw [decide_eq_true_eq]
   exact list_eq hl fun i hi=>by have:=h2 i hi; simp at this; exact Prod.ext this.1 this.2
  refine ⟨_,rfl,?_⟩
  show false=decide (p=q); symm; rw [decide_eq_false_iff_not]; intro he; subst he; simp at h2
 exact h.eq
abbrev ActT:=ZA
structure Both (ss:List zBU) (B:Int) (w:PW) (r:RW) : Prop where
 iw : IW ss B w
 wl : w.2.2.1.length≤1000
 ir : IR ss B r
 mx : MX ss w.2.2.1
theorem Both.mono {ss:List zBU}{B C:Int}{w:PW}{r:RW}(h:Both ss B w r) (hC:B≤C) : Both ss C w r:=⟨h.iw.mono hC,h.wl,h.ir.mono hC,h.mx⟩
def ShortA (x:ActT) : Prop:=x.2.2.2.2.2.1.length≤100000∧x.2.2.2.2.2.2.1.length≤100000∧x.2.2.2.2.2.2.2.1.length≤100000
theorem f11_t {ss:List zBU}(hS:SS ss){B:Int}{w:PW}{r:RW}(h:Both ss B w r) (hB:B≤800000) (ho:r.2.1.length≤60) (hK:r.2.2.1.length≤80){x:ActT}(hx:ShortA x) : Tot (f11 w r x) fun o=>Both ss (B+1500) o.2.1 o.2.2:=by
 have hm:=h.mono (C:=B+1500) (by omega)
 obtain ⟨hi,hc,hr,hx0⟩:=h
 obtain ⟨x1,x2,x3⟩:=hx
 unfold f11
 refine Tot.bind (Q:=fun o=>∃ b,o=.inl b) ?_ fun o ho'=>?_
 ·exact zAR (fun _=>zAB ⟨_,rfl⟩) (fun _=>zAR (fun _=>zAB ⟨_,rfl⟩) (fun _=>zAR (fun _=>zAB ⟨_,rfl⟩) (fun _=>zAR (fun _=>zAB ⟨_,rfl⟩) (fun _=>zAB ⟨_,rfl⟩))))
 obtain ⟨b,rfl⟩:=ho'
 simp only [f21_eq,f42_eq,Option.bind_some,Option.isSome_some,Bool.or_true,cond_true]
 refine zAR (fun _=>?_) (fun _=>?_)
 ·refine (f24_t hS hi (by omega) hc x1).bind fun y hy=>(f32_t hS hr (by omega) (by omega) (by omega) x1).bind fun z hz=>zAB ⟨hy.1.mono (by omega),hy.2.1,hz.mono (by omega),hy.2.2 hx0⟩
 refine zAR (fun _=>?_) (fun _=>?_)
 ·refine (f33_t hS hi _).bind fun y hy=>(f34_t hr (by omega) _).bind fun z hz=>zAB ⟨hy.1.mono (by omega),Nat.le_trans hy.2.1 hc,hz.mono (by omega),hx0.sub hy.1.rn hy.2.2⟩
 refine zAR (fun _=>?_) (fun _=>?_)
 ·exact (f17_t w _).bind fun y hy=>(f35_t r _).bind fun z hz=>zAB hm
 refine zAR (fun _=>?_) (fun _=>?_)
 ·exact (f14_t hS hi _).bind fun y hy=>(f36_t r _).bind fun z hz=>zAB hm
 refine zAR (fun _=>?_) (fun _=>?_)
 ·exact (f19_t hS hi (by omega) _ x1 x2).bind fun y hy=>(f37_t hS hr (by omega) _ x1 x2).bind fun z hz=>zAB hm
 refine zAR (fun _=>?_) (fun _=>?_)
 ·exact (f38_t hS hi (by omega) _ x1 x2 x3).bind fun y hy=>(f39_t hS hr (by omega) _ x1 x2 x3).bind fun z hz=>zAB hm
 refine zAR (fun _=>?_) (fun _=>?_)
 ·exact (f12_t hS hi (by omega) _ _).bind fun y hy=>(f40_t hS hr (by omega) (by omega) _ _).bind fun z hz=>zAB hm
 refine zAR (fun _=>?_) (fun _=>?_)
 ·exact (f18_x hS hi (by omega) hc _ _).bind fun y hy=>(f41_t hS hr (by omega) (by omega) (by omega) _ _).bind fun z hz=>zAB ⟨hy.1,hy.2.1,hz.mono (by omega),hy.2.2.1 hx0⟩
 refine zAR (fun _=>?_) (fun _=>?_)
 ·exact (f43_t hS hi (by omega) _ _).bind fun y hy=>(f44_t hS hr (by omega) (by omega) _ _).bind fun z hz=>zAB ⟨hy.1.mono (by omega),by rw [hy.2.1]; exact hc,hz.mono (by omega),by rw [hy.2.1]; exact hx0⟩
 refine zAR (fun _=>?_) (fun _=>?_)
 ·exact (f20_t hS hi (by omega) _).bind fun y hy=>(f45_t hS hr (by omega) (by omega) _).bind fun z hz=>zAB ⟨hy.1.mono (by omega),Nat.le_trans hy.2.1 hc,hz.mono (by omega),hx0.sub hy.1.rn hy.2.2.1⟩
 refine zAR (fun _=>?_) (fun _=>?_)
 ·exact (f46_t hS hi (by omega) _ _).bind fun y hy=>(f47_t hS hr (by omega) (by omega) _ _).bind fun z hz=>zAB hm
 exact (f23_t hi (by omega) _ _).bind fun y hy=>(f48_t hr _ _).bind fun z hz=>zAB ⟨hy.1.mono (by omega),by rw [hy.2.2.1]; exact hc,hz.mono (by omega),by rw [hy.2.2.1]; exact hx0⟩
theorem f10_eq (w:RW) (ho:w.2.1.length≤2000) (hK:w.2.2.1.length≤2000) : f10 w=some (decide (60 < (w.2.1.length : Int))||decide (80 < (w.2.2.1.length : Int))):=by
 unfold f10
 rw [f30_eq w (by omega),f31_eq w (by omega)]
 simp only [Option.bind_some,List.length_map,Option.isSome_some,Bool.or_true,cond_true,Option.getD_some]
def Light (p0:List zBU) (p1:List ActT) : Prop:=(∀ s∈p0,shortS s)∧p0.length≤25∧p1.length≤50∧∀ x∈p1,ShortA x
theorem f6_t {p0:List zBU}{p1:List ActT}(h1:∀ x∈p1,x.2.2.2.2.2.1.length≤1000000000000000∧x.2.2.2.2.2.2.1.length≤1000000000000000∧x.2.2.2.2.2.2.2.1.length≤1000000000000000) : Tot (f6 p0 p1) fun b=>b=true→Light p0 p1:=by
 unfold f6
 refine Tot.bind (zCs (p:=p0) (g:=f6_b0 p0) (fun i s=>decide (60 < (s.1.length : Int))||decide (5 < (s.2.length : Int))||s.2.any fun r=>decide (60 < (r.1.length : Int))) fun i s hi=>?_) fun o ho=>?_
 ·unfold f6_b0
  rw [zBW hi]
  simp only [Option.bind_some]
  generalize p0.getD i default=s
  cases hb : decide (60 < (s.1.length : Int))||decide (5 < (s.2.length : Int))
  ·obtain ⟨o,h2,h3⟩:=zCE (p:=s.2) (g:=f6_b2 s) (fun r:RoleT=>decide (60 < (r.1.length : Int))) (fun _=>()) (fun i s=>rfl)
   rw [h2]
   rcases h3 with ⟨rfl,h4⟩ | ⟨j,_,rfl,_,h4,_⟩
   ·rw [h4]; rfl
   rw [h4]; rfl
  rfl
 rcases ho with ⟨rfl,h2⟩ | ⟨rfl,_⟩
 ·refine Tot.bind (zCE (p:=p1) (g:=f6_b1 p1) (fun x:ActT=>((decide (1010 < (List.length x.2.2.2.2.1 : Int)))||(decide (150 < (w64 ((w64 ((List.length x.2.2.2.2.2.1 : Int)+(List.length x.2.2.2.2.2.2.1 : Int)))+(List.length x.2.2.2.2.2.2.2.1 : Int))))))||(decide (6 < (List.length x.2.2.2.2.2.2.2.2 : Int)))) (fun _=>()) (fun i s=>rfl)) fun o ho=>?_
  rcases ho with ⟨rfl,h3⟩ | ⟨_,_,rfl,_⟩
  ·refine zAB fun hb=>?_
   rw [Bool.and_eq_true,decide_eq_true_eq,decide_eq_true_eq] at hb
   refine ⟨fun s hs=>?_,by omega,by omega,fun x hx=>?_⟩
   ·obtain ⟨i,hi,rfl⟩:=zB4 default hs
    have h4:=h2 i hi
    generalize p0.getD i default=s at h4
    simp only [Bool.or_eq_false_iff,decide_eq_false_iff_not,List.any_eq_false,decide_eq_true_eq] at h4
    exact ⟨by omega,by omega,fun r hr=>by have:=h4.2 r hr; omega⟩
   have h4:=List.any_eq_false.1 h3 x hx
   obtain ⟨a1,a2,a3⟩:=h1 x hx
   rw [Bool.not_eq_true] at h4
   simp only [Bool.or_eq_false_iff,decide_eq_false_iff_not] at h4
   obtain ⟨⟨_,h5⟩,_⟩:=h4
   rw [w64_id (z:=(x.2.2.2.2.2.1.length : Int)+(x.2.2.2.2.2.2.1.length : Int)) (by constructor <;> omega),w64_id (by constructor <;> omega)] at h5
   refine ⟨?_,?_,?_⟩ <;> omega
  exact zAB fun h=>by cases h
 exact zAB fun h=>by cases h
theorem run_t {ss:List zBU}(hS:SS ss){p1:List ActT}(hl:p1.length≤50) (hx:∀ x∈p1,ShortA x) : Tot (rng (f3_b0 p1) (Int.toNat (List.length p1 : Int)) 0 (some (ss,[],[],1,1),some (ss,[],[],1,1))) fun o=>(∃ s : Option PW×Option RW,o=.inl s∧∃ w,s.1=some w∧IW ss 100000 w∧w.2.2.1.length≤1000∧MX ss w.2.2.1)∨∃ s,o=.inr s∧∃ w,s=some w∧IW ss 100000 w∧w.2.2.1.length≤1000∧MX ss w.2.2.1:=by
 rw [zBS]
 refine (zA1 (fun i (s:Option PW×Option RW)=>∃ w r,s=(some w,some r)∧Both ss (1+1500 * i) w r) (fun s=>∃ w,s=some w∧IW ss 100000 w∧w.2.2.1.length≤1000∧MX ss w.2.2.1) ⟨_,_,rfl,⟨IW.new,by simp,IR.new,MX.nil hS⟩⟩ fun i s hi hs=>?_).mono fun o ho=>?_
 ·obtain ⟨w,r,rfl,hb⟩:=hs
  unfold f3_b0
  simp only
  refine zA2 hi ?_
  simp only [Option.bind_some]
  rw [f10_eq r hb.ir.ol hb.ir.rl]
  simp only [Option.bind_some]
  refine zAR (fun _=>zAB (.inr ⟨_,rfl,w,rfl,hb.iw.mono (by omega),hb.wl,hb.mx⟩)) (fun h1=>?_)
  simp only [Bool.or_eq_false_iff,decide_eq_false_iff_not] at h1
  refine (f11_t hS hb (by omega) (by omega) (by omega) (hx _ (zBV hi))).bind fun y hy=>?_
  exact zAB (.inl ⟨_,rfl,_,_,rfl,hy.mono (by omega)⟩)
 rcases ho with ⟨s,rfl,w,r,rfl,hb⟩ | h
 ·exact .inl ⟨_,rfl,w,rfl,hb.iw.mono (by omega),hb.wl,hb.mx⟩
 exact .inr h
end Go.Ab
namespace Go.Ab
theorem f15_sort (l:List Int) (x:Int) : f15 (zBT l) x=some (decide (x∈l)):=by
 rw [zCp]; congr 1; rw [Bool.eq_iff_iff,any_mem,zBv,decide_eq_true_eq]
section
variable {ss:List zBU} (hS:SS ss) {a:Nat} {z:Int} (ha:WayN a) (haz:(a:Int)=93+z) {D R T:List Int} {y:Int} {e:Int×Str×List Int} (hr:RelOk ss e.2)
include hS ha haz hr
end
theorem f16_t {ss:List zBU}{B:Int}{w:PW}(h:IW ss B w) (hB:B≤1000000) : f16 w=some (zBT (keys w.2.1)):=by
 unfold f16
 simp only [zBs,Option.bind_some]
 rw [skeys_t h.on h.ok (by have:=h.no; omega)]; rfl
def LenA (x:ActT) : Prop:=x.2.2.2.2.2.1.length≤1000000000000000∧x.2.2.2.2.2.2.1.length≤1000000000000000∧x.2.2.2.2.2.2.2.1.length≤1000000000000000
theorem name_len {p:Str}(h:zC5 p=true) : p.length≤100000:=by
 simp only [zC5,Bool.and_eq_true,decide_eq_true_eq] at h; omega
theorem ss_names {p:List zBU}(ho:zB8 p=true){s:zBU}(hs:s∈p) : zC5 s.1=true∧(∀ i,i < s.2.length→zC5 (s.2.getD i default).1=true)∧∀ i j,i < j→j < s.2.length→(s.2.getD i default).1≠(s.2.getD j default).1:=by
 obtain ⟨k,hk,rfl⟩:=zB4 default hs
 have h1:=(zCB.1 ho).1 k hk
 generalize p.getD k default=s at h1
 have h2 : sortB s=true:=(Bool.and_eq_true _ _ ▸ h1).1
 simp only [sortB,Bool.and_eq_true,zB1,decide_eq_true_eq,Bool.not_eq_true'] at h2
 refine ⟨h2.1.1.2,fun i hi=>?_,fun i j hij hj he=>?_⟩
 ·have h3:=(h2.1.1.1 i hi).1
  simp only [zC9,Bool.and_eq_true] at h3
  exact h3.1.1.1.2
 have h3:=(h2.1.1.1 j hj).2
 rw [List.any_eq_false] at h3
 refine h3 (s.2.getD i default) ?_ (by simp only [decide_eq_true_eq]; exact he)
 rw [← getD_take (n:=j) hij]
 exact zBV (by rw [List.length_take]; omega)
theorem f50_in {w:PW}{x:Int}(hx:x∈keys w.2.1) (h0:0≤x) : f50 w [x]=some 0:=by
 obtain ⟨r,hr,h1⟩:=f50_t w [x]
 rw [hr]
 rcases h1 with ⟨_,k,hk,h2⟩ | ⟨_,_,k,hk,h2⟩ | ⟨h2,_⟩
 ·rw [List.mem_singleton] at hk; subst hk; omega
 ·rw [List.mem_singleton] at hk; subst hk; exact absurd hx h2
 rw [h2]
theorem f17_x {ss:List zBU}{B:Int}{w:PW}(h:IW ss B w){k:Int}(hk:k∈keys w.2.1) : f17 w k=some (objAt w k,0):=by
 unfold f17 f57
 rw [f50_in hk (by have:=h.ok k hk; omega)]
 rfl
theorem f64_x {ss:List zBU}(hS:SS ss){B:Int}{w:PW}(h:IW ss B w){s:zBU}(hs:s∈ss){i:Nat}(hi:i < s.2.length) (hn:zC5 s.1=true) (hr:∀ i,i < s.2.length→zC5 (s.2.getD i default).1=true) (hd:∀ i j,i < j→j < s.2.length→(s.2.getD i default).1≠(s.2.getD j default).1){x:Int}(hx:x∈keys w.2.1) : f64 w x s.1 [(s.2.getD i default).1]=some (0,[(i:Int)]):=by
 have hx1:=h.ok x hx
 unfold f64
 have hf : f106 [(s.2.getD i default).1] (fun y1=>f107 y1)=some ([(s.2.getD i default).1].any fun y=>!zC5 y):=f106_eq _ (fun y hy=>by
  rw [List.mem_singleton] at hy; subst hy
  show (f73 _).bind _=_
  rw [f73_eq _ (name_len (hr i hi))]; rfl)
 rw [f73_eq _ (name_len hn),hf,hn]
 have ha : ([(s.2.getD i default).1].any fun y=>!zC5 y)=false:=by rw [List.any_cons,hr i hi]; rfl
 rw [ha]
 simp only [Bool.not_false,Bool.not_true,Option.isSome_some,Bool.or_true,Bool.or_false,cond_true,cond_false,Option.getD_some]
 rw [decide_eq_false (show ¬ x < 0 by omega)]
 obtain ⟨o,ho,h1⟩:=f75_t h.srt s.1
 rw [ho]
 have ho' : o=some s:=by
  rcases h1 with ⟨_,h2⟩ | ⟨t,ht,h2,h3⟩
  ·exact absurd rfl (h2 s hs)
  rw [h3,hS.uniq t ht s hs h2]
 subst ho'
 simp only [Option.bind_some,Option.isNone_some,cond_false]
 have hb : f64_b0 [(s.2.getD i default).1] (some s) ((0:Nat) : Int) []=some (.inl [(i:Int)]):=by
  have h5 : Tot (f108 (some s) (s.2.getD i default).1) (Find s.2 fun y=>decide (y.1=(s.2.getD i default).1)):=by
   unfold f108
   exact (f112_t (q:=fun y1=>f122 y1 (s.2.getD i default).1) (fun y=>decide (y.1=(s.2.getD i default).1)) (fun y _=>rfl)).bind fun r hr=>zAB hr
  obtain ⟨r,h6,h7⟩:=h5
  have hri : r=(i:Int):=by
   rcases h7 with ⟨_,h7⟩ | ⟨j,rfl,hj,h7,h8⟩
   ·have:=h7 _ (zBV (d:=default) hi); simp at this
   have h7':=of_decide_eq_true h7
   rcases Nat.lt_trichotomy i j with h9 | h9 | h9
   ·have:=h8 i h9; simp at this
   ·rw [h9]
   exact absurd h7' (hd j i h9 hi)
  unfold f64_b0
  rw [zBW (by simp)]
  simp only [Option.bind_some,List.getD_cons_zero,h6,hri]
  rw [decide_eq_false (show ¬ (i:Int) < 0 by omega)]
  rfl
 have hrng : rng (f64_b0 [(s.2.getD i default).1] (some s)) (Int.toNat (List.length [(s.2.getD i default).1] : Int)) 0 ([] : List Int)=some (.inl [(i:Int)]):=by
  show rng (f64_b0 [(s.2.getD i default).1] (some s)) 1 0 ([] : List Int)=_
  simp only [rng]
  have hb' : f64_b0 [(s.2.getD i default).1] (some s) 0 []=some (.inl [(i:Int)]):=hb
  rw [hb']; rfl
 rw [hrng]
 simp only [Option.bind_some]
 rw [f50_in hx (by omega)]
 rfl
theorem f19_x {ss:List zBU}(hS:SS ss){B:Int}{w:PW}(h:IW ss B w) (hB:B≤1000000){s:zBU}(hs:s∈ss){i:Nat}(hi:i < s.2.length) (hn:zC5 s.1=true) (hr:∀ i,i < s.2.length→zC5 (s.2.getD i default).1=true) (hd:∀ i j,i < j→j < s.2.length→(s.2.getD i default).1≠(s.2.getD j default).1){x:Int}(hx:x∈keys w.2.1) : Tot (f19 w x s.1 (s.2.getD i default).1) fun r=>r.1=0∧r.2.length=cnt w.2.2.1 s.1 i x:=by
 unfold f19
 rw [f64_x hS h hs hi hn hr hd hx]
 simp only [Option.bind_some,decide_true,Bool.not_true,cond_false]
 rw [show ix [(i:Int)] 0=some (i:Int) from rfl]
 simp only [Option.bind_some]
 refine (zBN (show f65 w x s.1 (i:Int)=some () from rfl)).bind fun _ _=>?_
 have hrl:=h.rlen hB
 refine (f109_g h hB (nm:=s.1) (j:=i) (fun e he hn'=>by have:=rel_len hS h hs he hn'; omega) (q:=f19_b0) (fun n (l:List Int)=>l.length=(((relL w).take n).filter (hit s.1 i x)).length) (by simp) (fun n l hn' hl=>?_)).bind fun o ho=>?_
 ·rw [filter_snoc (by rw [relL_len]; exact hn')]
  have hle : (((relL w).take n).filter (hit s.1 i x)).length≤n:=Nat.le_trans (List.length_filter_le _ _) (by rw [List.length_take]; omega)
  refine ⟨fun h2=>?_,fun h2=>?_⟩
  ·rw [if_pos h2]
   generalize (relL w).getD n default=e
   obtain ⟨a,b⟩:=e
   unfold f19_b0
   exact zAi (zBf (by rw [List.length_singleton]; omega)) (zAB ⟨_,rfl,by rw [List.length_append,List.length_append,hl]; rfl⟩)
  rw [h2,hl]; simp
 obtain ⟨l,rfl,hl⟩:=ho
 refine zAB ⟨rfl,?_⟩
 show l.length=_
 rw [hl,← relL_cnt h.rn,cnt,List.take_of_length_le (by rw [relL_len]; exact Nat.le_refl _)]
def f4_tail (p0:List zBU) (p2 p3:Int) (x24:PW) : Option Bool :=
 (f16 x24).bind fun x26 =>
  (rng (f4_b1 x24 x26) (Int.toNat (List.length x26 : Int)) 0 ([] : List (Int×Int×Str))).bind fun o33=>match o33 with
   | .inl s30=>((f12 x24 p2 1).bind fun x35 =>
    (f18 x24 p2 p3).bind fun x37 =>
    bif !decide (x37.2.2.1=0) then
     (bif (!((((!decide (x35.2.2.2=0))||(decide (x37.2.2.1=9)))||(decide (x37.2.2.1=7)))||(decide (x37.2.2.1=4)))||Option.isSome (f7)) then
      some (((((!decide (x35.2.2.2=0))||(decide (x37.2.2.1=9)))||(decide (x37.2.2.1=7)))||(decide (x37.2.2.1=4)))&&((f7).getD default))
     else none)
    else
     (bif ((!decide (x35.2.2.2=0))||(!decide ((List.length x37.1 : Int)=(List.length x35.1 : Int))))||(!decide ((List.length x37.2.1 : Int)=(List.length x35.2.1 : Int))) then
      (some false)
     else
      ((rng (f4_b2 s30 x37) (Int.toNat (List.length s30 : Int)) 0 ()).bind fun o44=>match o44 with
       | .inl ()=>((rng (f4_b3 p3 x35 x37) (Int.toNat (List.length x37.1 : Int)) 0 ()).bind fun o48=>match o48 with
        | .inl ()=>((rng (f4_b4 x35 x37) (Int.toNat (List.length x37.2.1 : Int)) 0 ()).bind fun o52=>match o52 with
         | .inl ()=>((rng (f4_b5 p0 x37) (Int.toNat (List.length p0 : Int)) 0 ()).bind fun o56=>match o56 with
          | .inl ()=>((f7).bind fun x58=>some x58)
          | .inr ()=>(some false))
         | .inr ()=>(some false))
        | .inr ()=>(some false))
       | .inr ()=>(some false))))
   | .inr _=>none
theorem mget_app {α β:Type} [DecidableEq α] : ∀ {x y:List (α×β)}{k:α},mget (x++y) k=(mget x k).or (mget y k):=by
 intro x
 induction x with
 | nil=>intro y k; simp [mget]
 | cons p x ih =>
  intro y k
  obtain ⟨a,b⟩:=p
  simp only [List.cons_append,mget]
  split
  ·rfl
  exact ih
theorem tot_all {R α:Type}{g:Int→Unit→Option (Unit ⊕ R)}{n:Nat}{k:Unit ⊕ R→Option α}{Q:α→Prop}(h:∀ i,i < n→Tot (g (i:Int) ()) fun o=>o=.inl ()) (hk:Tot (k (.inl ())) Q) : Tot ((rng g n 0 ()).bind k) Q:=by
 refine (zAq (fun _ _=>True) trivial fun i s hi _=>?_).bind fun o ho=>?_
 ·obtain ⟨o,h1,rfl⟩:=h i hi
  exact ⟨_,h1,(),rfl,trivial⟩
 obtain ⟨_,rfl,_⟩:=ho
 exact hk
theorem f4_tail_t {ss:List zBU}(hS:SS ss) (hok:zB8 ss=true){B:Int}{w:PW}(h:IW ss B w) (hB:B≤800000) (hc:w.2.2.1.length≤1000) (hmx:MX ss w.2.2.1) (p v:Int) : f4_tail ss p v w=some true:=by
 have h1 : Tot (f4_tail ss p v w) (·=true):=by
  unfold f4_tail
  rw [f16_t h (by omega)]
  simp only [Option.bind_some]
  have hol:=h.ol
  have hil : (zBT (keys w.2.1)).length=w.2.1.length:=by rw [zCN,keys,List.length_map]
  refine Tot.bind (Q:=fun o=>o=.inl ((zBT (keys w.2.1)).map (objAt w))) ?_ fun o ho=>?_
  ·rw [zBS]
   refine (zAq (fun i s=>s=((zBT (keys w.2.1)).take i).map (objAt w)) rfl fun i s hi hs=>?_).mono fun o ho=>?_
   ·subst hs
    unfold f4_b1
    refine zA2 hi ?_
    rw [f17_x h (zBv.1 (zBV hi))]
    simp only [Option.bind_some]
    refine zAi (zBf ?_) (zAB ⟨_,rfl,?_⟩)
    ·rw [List.length_map,List.length_take,List.length_singleton]; omega
    rw [zCx default hi,List.map_append]; rfl
   obtain ⟨s',rfl,rfl⟩:=ho; rw [List.take_length]
  subst ho
  simp only
  refine (f12_err hS h (by omega) p (z:=1) (by omega) (by omega)).bind fun x35 hx=>?_
  refine (f18_x hS h (by omega) hc p v).bind fun x37 hy=>?_
  obtain ⟨x2,e1,e2,e3,e4⟩:=hx
  obtain ⟨hI,_,hmx',hy⟩:=hy
  rw [f7_true]
  rcases hy with ⟨h0,herr⟩ | ⟨h0,hf,o,hC⟩
  ·rw [show (!decide (x37.2.2.1=0))=true by simp [h0]]
   have hb : ((((!decide (x35.2.2.2=0))||(decide (x37.2.2.1=9)))||(decide (x37.2.2.1=7)))||(decide (x37.2.2.1=4)))=true:=by
    rcases herr with h3 | h3 | h3 | h3
    ·simp [h3]
    ·simp [h3]
    ·simp [h3]
    rw [e1] at h3; cases h3
    rw [e2]; simp [h0]
   rw [hb]; exact zAB rfl
  rw [e1] at hf; cases hf
  obtain ⟨a,o',h5,_,_,_,_,h6⟩:=e4 rfl
  rw [hC.f] at h5; cases h5
  have hl1 : x37.1.length=(zBT (keys o.1)).length:=by rw [← hC.k1,List.length_map]
  have hl2 : x37.2.1.length=(zBT (keys o.2.1)).length:=by rw [← hC.k2,List.length_map]
  rw [h0,h6]
  simp only [decide_true,Bool.not_true,cond_false,hl1,hl2,Bool.or_false]
  have hmo : ∀ k∈keys w.2.1,k∈keys x37.2.2.2.2.1:=fun k hk=>zBk.2 (by rw [hC.o1 k hk]; exact zBk.1 hk)
  have hoa : ∀ k∈keys w.2.1,objAt x37.2.2.2 k=objAt w k:=fun k hk=>by unfold objAt; rw [hC.o1 k hk]
  have hmr : ∀ k∈keys w.2.2.1,k∈keys x37.2.2.2.2.2.1:=fun k hk=>zBk.2 (by rw [hC.t1 k hk]; exact zBk.1 hk)
  have hra : ∀ k∈keys w.2.2.1,zBX x37.2.2.2 k=zBX w k:=fun k hk=>by unfold zBX; rw [hC.t1 k hk]
  rw [zBS]
  refine tot_all (fun i hi=>?_) ?_
  ·rw [List.length_map] at hi
   unfold f4_b2
   rw [zBW (by rw [List.length_map]; exact hi),getD_map hi]
   have hk : (zBT (keys w.2.1)).getD i default∈keys w.2.1:=zBv.1 (zBV hi)
   generalize (zBT (keys w.2.1)).getD i default=k at hk
   simp only [Option.bind_some]
   have hk1 : (objAt w k).1=k:=(h.ot _ (objAt_of hk)).1
   rw [hk1,f17_x hI (hmo k hk),hoa k hk]
   simp only [Option.bind_some,hk1,decide_true,Bool.not_true,Bool.and_self,Bool.or_self,cond_false]
   exact zAB rfl
  refine tot_all (n:=(zBT (keys o.1)).length) (fun i hi=>?_) ?_
  ·unfold f4_b3
   rw [zBW (by rw [hl1]; exact hi),zBW hi]
   have hq : x37.1.getD i default∈x37.1:=zBV (by rw [hl1]; exact hi)
   have hq1 : (zBT (keys o.1)).getD i default=(x37.1.getD i default).1:=by
    rw [← hC.k1,getD_map (by rw [hl1]; exact hi)]
   rw [hq1]
   have hD : (x37.1.getD i default).1∈keys o.1:=by rw [← hq1]; exact zBv.1 (zBV hi)
   generalize x37.1.getD i default=q at hq hD ⊢
   have hw:=hC.a.od _ hD
   obtain ⟨o1,o2⟩:=hC.o2 q hq
   have hk2 : q.2∈keys x37.2.2.2.2.1:=zBk.2 (by rw [o1]; rfl)
   have hob : objAt x37.2.2.2 q.2=(q.2,v,(objAt w q.1).2.2):=by unfold objAt; rw [o1]; rfl
   simp only [Option.bind_some]
   rw [f17_x hI (hmo _ hw),f17_x hI hk2,hob,hoa _ hw]
   simp only [Option.bind_some,decide_true,Bool.not_true,Bool.or_self,cond_false]
   exact zAB rfl
  rw [zBS]
  refine tot_all (n:=(zBT (keys o.2.1)).length) (fun i hi=>?_) ?_
  ·unfold f4_b4
   rw [zBW (by rw [hl2]; exact hi),zBW hi]
   have hq : x37.2.1.getD i default∈x37.2.1:=zBV (by rw [hl2]; exact hi)
   have hq1 : (zBT (keys o.2.1)).getD i default=(x37.2.1.getD i default).1:=by
    rw [← hC.k2,getD_map (by rw [hl2]; exact hi)]
   rw [hq1]
   have hR : (x37.2.1.getD i default).1∈keys o.2.1:=by rw [← hq1]; exact zBv.1 (zBV hi)
   generalize x37.2.1.getD i default=q at hq hR ⊢
   have hw:=hC.a.ro _ hR
   have t2:=hC.t2 q hq
   have hk2 : q.2∈keys x37.2.2.2.2.2.1:=zBk.2 (by rw [t2]; rfl)
   have hob : zBX x37.2.2.2 q.2=(q.2,(zBX w q.1).2.1,(zBX w q.1).2.2.map (toOf x37.1)):=by unfold zBX; rw [t2]; rfl
   obtain ⟨_,_,_,hrel,hobs⟩:=h.rk _ (zCR h.rn hw)
   simp only [Option.bind_some]
   refine (f14_t hS hI q.1).bind fun x85 hx=>?_
   rcases hx with ⟨_,h2⟩ | ⟨h2,_,h3⟩
   ·exact absurd (hmr _ hw) h2
   refine (f14_t hS hI q.2).bind fun x87 hx=>?_
   rcases hx with ⟨_,g2⟩ | ⟨g2,_,g3⟩
   ·exact absurd hk2 g2
   obtain ⟨e,u⟩:=x85
   obtain ⟨f,u'⟩:=x87
   simp only at h2 h3 g2 g3
   subst h2 g2
   rw [hra _ hw] at h3
   rw [hob] at g3
   subst h3 g3
   simp only [decide_true,Bool.not_true,Bool.or_self,cond_false,List.length_map]
   rw [zBS]
   refine tot_all (fun j hj=>?_) (zAB rfl)
   unfold f4_b8
   simp only
   rw [zBW hj,zBW (by rw [List.length_map]; exact hj),getD_map hj]
   have hm : (zBX w q.1).2.2.getD j default∈(zBX w q.1).2.2:=zBV hj
   generalize (zBX w q.1).2.2.getD j default=y at hm
   have hyo : y∈keys w.2.1:=hobs y hm
   simp only [Option.bind_some]
   have hnd : (x37.1.map (·.1)).Nodup:=by rw [hC.k1]; exact (zBw _).nodup_iff.2 hC.a.td.1
   refine Tot.bind (Q:=fun o=>o=.inl (toOf x37.1 y)) ?_ fun o ho=>?_
   ·rw [zBS]
    refine (zAq (fun m s=>s=toOf (x37.1.take m) y) rfl fun m s hm' hs=>?_).mono fun o ho=>?_
    ·subst hs
     unfold f4_b9
     rw [zBW hm',zCx default hm']
     have hfr : (x37.1.getD m default).1∉(x37.1.take m).map (·.1):=fun hc=>by
      have h9:=hnd
      rw [← List.take_append_drop (m+1) x37.1,zCx default hm',List.map_append,List.nodup_append] at h9
      have h10:=h9.1
      rw [List.map_append,List.nodup_append] at h10
      exact h10.2.2 _ hc _ (by simp) rfl
     generalize x37.1.getD m default=c at hfr
     simp only [Option.bind_some]
     by_cases hc : c.1=y
     ·rw [decide_eq_true hc]
      refine zAB ⟨_,rfl,?_⟩
      unfold toOf
      rw [mget_app,← hc,mget_none_iff.2 hfr]
      simp [mget]
     rw [decide_eq_false hc]
     refine zAB ⟨_,rfl,?_⟩
     unfold toOf
     rw [mget_app]
     have : mget [c] y=none:=by
      obtain ⟨c1,c2⟩:=c
      simp only [mget]
      rw [if_neg (show ¬ y=c1 from fun he=>hc he.symm)]
     rw [this]; simp
    obtain ⟨s',rfl,rfl⟩:=ho; rw [List.take_length]
   subst ho
   simp only [f15_sort,Option.isSome_some,Bool.or_true,cond_true,Option.getD_some,decide_true,Bool.not_true,Bool.false_or]
   refine zAR (fun h9=>?_) (fun _=>zAB rfl)
   exfalso
   simp only [Bool.and_eq_true,decide_eq_true_eq,Bool.not_eq_true',decide_eq_false_iff_not] at h9
   obtain ⟨h9,h10⟩:=h9
   rcases hC.a.tou q.1 hR y hm with h11 | h11
   ·have h12 : y∈x37.1.map (·.1):=by rw [hC.k1]; exact zBv.2 h11
    obtain ⟨n,hn⟩:=Option.isSome_iff_exists.1 (zBk.1 h12)
    unfold toOf at h9
    rw [hn] at h9
    simp only [Option.getD_some] at h9
    have:=(hC.o2 _ (mget_mem hn)).2
    simp only [h9] at this
    exact this hyo
   exact h10 h11
  rw [zBS]
  refine tot_all (fun i hi=>?_) (zAB rfl)
  unfold f4_b5
  rw [zBW hi]
  have hsm : ss.getD i default∈ss:=zBV hi
  generalize ss.getD i default=s at hsm
  obtain ⟨n1,n2,n3⟩:=ss_names hok hsm
  simp only [Option.bind_some]
  rw [zBS]
  refine tot_all (fun j hj=>?_) (zAB rfl)
  unfold f4_b6
  rw [zBW hj]
  simp only [Option.bind_some]
  rw [f16_t hI (by omega)]
  simp only [Option.bind_some]
  rw [zBS]
  refine tot_all (fun m hm=>?_) (zAB rfl)
  unfold f4_b7
  rw [zBW hm]
  have hk : (zBT (keys x37.2.2.2.2.1)).getD m default∈keys x37.2.2.2.2.1:=zBv.1 (zBV hm)
  generalize (zBT (keys x37.2.2.2.2.1)).getD m default=k at hk
  simp only [Option.bind_some]
  refine (f19_x hS hI (by omega) hsm hj n1 n2 n3 hk).bind fun r hr=>?_
  refine zAR (fun h9=>?_) (fun _=>zAB rfl)
  exfalso
  rw [hr.1,hr.2] at h9
  simp only [decide_true,Bool.not_true,Bool.false_or,Bool.and_eq_true,decide_eq_true_eq] at h9
  have:=hmx' hmx s hsm j hj h9.1 k
  omega
 exact h1.eq
theorem f4_b01 : f4_b0=f3_b0:=rfl
theorem f4_b10_1 : f4_b10=f4_b1:=rfl
theorem f4_b11_2 : f4_b11=f4_b2:=rfl
theorem f4_b12_3 : f4_b12=f4_b3:=rfl
theorem f4_b13_4 : f4_b13=f4_b4:=rfl
theorem f4_b14_5 : f4_b14=f4_b5:=rfl
theorem f4_t {p0:List zBU}{p1:List ActT}(p2 p3:Int) (h1:∀ x∈p1,LenA x) : f4 p0 p1 p2 p3=some true:=by
 have h2 : Tot (f4 p0 p1 p2 p3) (·=true):=by
  unfold f4
  refine (f6_t h1).bind fun b hb=>?_
  refine zAR (fun _=>by rw [f7_true]; exact zAB rfl) (fun h0=>?_)
  obtain ⟨hs,hl0,hl1,hx⟩:=hb (by simpa using h0)
  rw [f8_eq p0 hs hl0,f9_eq p0 hs]
  simp only [Option.bind_some]
  cases hk : zB8 p0
  ·simp only [cond_false]
   rw [show (!decide ((1:Int)=0))=true from rfl]
   rw [f7_true]; exact zAB rfl
  simp only [cond_true,decide_true,Bool.not_true,cond_false]
  have hS:=ss_of hs hk
  rw [f4_b01]
  refine (run_t hS hl1 hx).bind fun o ho=>?_
  rcases ho with ⟨⟨s1,s2⟩,rfl,w,hw,hI,hc,hm⟩ | ⟨s,rfl,w,rfl,hI,hc,hm⟩
  ·simp only at hw
   subst hw
   exact zBN (f4_tail_t hS hk hI (by omega) hc hm p2 p3)
  rw [f4_b10_1,f4_b11_2,f4_b12_3,f4_b13_4,f4_b14_5]
  exact zBN (f4_tail_t hS hk hI (by omega) hc hm p2 p3)
 exact h2.eq
end Go.Ab
