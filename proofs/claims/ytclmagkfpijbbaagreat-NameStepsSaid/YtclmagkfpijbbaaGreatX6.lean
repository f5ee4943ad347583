/- Lemmas for a law of the seat: what functions of the program do, each stated as a contract of its own (X6). -/
import Derived.Test.YtclmagkfpijbbaaGreatX5
set_option linter.unusedVariables false
set_option linter.unusedSimpArgs false
namespace Go.Ab
open Go
abbrev Ent:=ZM
def nxt (m:List (Int×Ent)) (e:Ent) (c:Str×Str) : Ent ⊕ Int:=match mget e c with
 | none=>.inr 8
 | some v=>match asI 86 .i64 v with
  | some (z,true)=>match mget m z with
   | some e'=>.inl e'
   | none=>.inr 8
  | _=>.inr 10
def fol (m:List (Int×Ent)) : ZN→Ent→Ent ⊕ Int
 | [],e=>.inl e
 | c::cs,e=>match nxt m e c with
  | .inl e'=>fol m cs e'
  | .inr n=>.inr n
theorem fol_app (m:List (Int×Ent)) : ∀ (a b:ZN) (e:Ent),fol m (a++b) e=match fol m a e with | .inl e'=>fol m b e' | .inr n=>.inr n:=by
 intro a
 induction a with
 | nil=>intro b e; rfl
 | cons c a ih =>
  intro b e
  simp only [List.cons_append,fol]
  cases nxt m e c with
  | inl e'=>exact ih b e'
  | inr n=>rfl
theorem fol_snoc (m:List (Int×Ent)) (a:ZN) (c:Str×Str) (e:Ent) : fol m (a++[c]) e=match fol m a e with | .inl e'=>nxt m e' c | .inr n=>.inr n:=by
 rw [fol_app]
 cases fol m a e with
 | inl e'=>simp only [fol]; cases nxt m e' c <;> rfl
 | inr n=>rfl
theorem nxt_ne {m e c n}(h:nxt m e c=.inr n) : n≠0:=by
 unfold nxt at h
 split at h
 ·cases h; decide
 ·split at h
  ·split at h
   ·cases h
   ·cases h; decide
  ·cases h; decide
theorem fol_ne {m} : ∀ {a e n},fol m a e=.inr n→n≠0:=by
 intro a
 induction a with
 | nil=>intro e n h; cases h
 | cons c a ih =>
  intro e n h
  simp only [fol] at h
  cases hx : nxt m e c with
  | inl e'=>rw [hx] at h; exact ih h
  | inr q=>rw [hx] at h; cases h; exact nxt_ne hx
theorem nxt_in {m e c e'}(h:nxt m e c=.inl e') : ∃ k,mget m k=some e':=by
 unfold nxt at h
 split at h
 ·cases h
 ·split at h
  ·split at h
   ·rename_i z _ e1 he; cases h; exact ⟨_,he⟩
   ·cases h
  ·cases h
theorem fol_in {m} : ∀ {a e e'},fol m a e=.inl e'→(∃ k,mget m k=some e)→∃ k,mget m k=some e':=by
 intro a
 induction a with
 | nil=>intro e e' h hk; cases h; exact hk
 | cons c a ih =>
  intro e e' h hk
  simp only [fol] at h
  cases hx : nxt m e c with
  | inl e1=>rw [hx] at h; exact ih h (nxt_in hx)
  | inr q=>rw [hx] at h; cases h
theorem g38_f {B s k p e}(h:PI B s) (hk:mget s.1 k=some e) (h1:1≤p.length) (h2:p.length≤1000) : Tot (g38 s k p) fun o=>(∃ e',fol s.1 (p.take (p.length - 1)) e=.inl e'∧o=(e',(0,0),0))∨∃ n,fol s.1 (p.take (p.length - 1)) e=.inr n∧o.2.2=n:=by
 unfold g38
 obtain ⟨e1,e2⟩:=cut_eq h1 h2
 rw [e1]
 refine zAi e2 ?_
 rw [Int.toNat_natCast,hk]
 obtain ⟨q,hq⟩ : ∃ q,p.take (p.length - 1)=q:=⟨_,rfl⟩
 rw [hq] at e1 ⊢
 refine (zA1 (fun i m=>fol s.1 (q.take i) e=.inl m) (fun r=>fol s.1 q e=.inr r.1) (by simp [fol]) (fun i m hi hI=>?_)).bind ?_
 ·unfold g38_b0
  rw [e1]
  have hs : fol s.1 (q.take (i+1)) e=nxt s.1 m (q.getD i default):=by rw [zCx default hi,fol_snoc,hI]
  have hx : ∀ n,nxt s.1 m (q.getD i default)=.inr n→fol s.1 q e=.inr n:=fun n hn=>by
   conv=>lhs; rw [← List.take_append_drop (i+1) q]
   rw [fol_app,hs,hn]
  obtain ⟨kk,hkk⟩:=fol_in hI ⟨k,hk⟩
  refine Tot.bind (Q:=fun o=>(∃ m',o=.inl m'∧fol s.1 (q.take (i+1)) e=.inl m')∨∃ r,o=.inr r∧fol s.1 q e=.inr r.1) (zA2 hi ?_) ?_
  ·obtain ⟨c,hc⟩ : ∃ c,q.getD i default=c:=⟨_,rfl⟩
   rw [hc] at hs hx ⊢
   obtain ⟨g1,g2⟩:=val_cases (o:=mget m c) fun v hv=>h.valm hkk hv
   refine zAi g1 ?_
   rcases g2 with ⟨g2,g3⟩ | ⟨t,g2⟩ | ⟨z,g2⟩
   ·rw [g3]
    exact zAB (.inr ⟨_,rfl,hx 8 (by simp [nxt,g2])⟩)
   ·rw [g2]
    simp only [Option.getD_some,isN_S,asS_S,cond_false,Option.bind_some,cond_true]
    exact zAB (.inr ⟨_,rfl,hx 10 (by simp [nxt,g2,asI_S])⟩)
   ·rw [g2]
    simp only [Option.getD_some,isN_I,asS_I,asI_I,cond_false,Option.bind_some,cond_true]
    cases hz : mget s.1 z with
    | none=>exact zAB (.inr ⟨_,rfl,hx 8 (by simp [nxt,g2,asI_I,hz])⟩)
    | some e'=>exact zAB (.inl ⟨_,rfl,by rw [hs]; simp [nxt,g2,asI_I,hz]⟩)
  ·rintro o (⟨q',rfl,hq'⟩ | ⟨r,rfl,hr⟩)
   ·exact zAB (.inl ⟨_,rfl,hq'⟩)
   ·exact zAB (.inr ⟨_,rfl,hr⟩)
 ·rintro o (⟨q',rfl,hq'⟩ | ⟨r,rfl,hr⟩)
  ·rw [List.take_of_length_le (Nat.le_refl _)] at hq'
   exact zAB (.inl ⟨_,hq',rfl⟩)
  ·exact zAB (.inr ⟨_,hr,rfl⟩)
def resv (m:List (Int×Ent)) (k:Int) (p:ZN) : (ZB)×Int :=
 bif !(vOk p) then (zDu,1) else match mget m k with
 | none=>(zDu,7)
 | some e=>match fol m (p.take (p.length - 1)) e with
  | .inr n=>(zDu,n)
  | .inl e'=>(tell m (p.getD (p.length - 1) default) (mget e' (p.getD (p.length - 1) default))).getD (zDu,8)
theorem f16_f {B s}(h:PI B s) (k:Int) (p:ZN) : Tot (f16 s k p) fun r=>(r.1,r.2.2)=resv s.1 k p:=by
 unfold f16 resv
 rw [f26_eq]
 simp only [Option.bind_some]
 cases hv : vOk p with
 | false=>exact zAB rfl
 | true =>
  obtain ⟨n1,n2,n3⟩:=vOk_n hv
  cases hk : mget s.1 k with
  | none=>exact zAB rfl
  | some e =>
   simp only [Bool.not_true,cond_false,Option.isSome_some,decide_true]
   refine (g38_f h hk n1 (by omega)).bind ?_
   rintro o (⟨e',h1,rfl⟩ | ⟨n,h1,h2⟩)
   ·rw [h1]
    simp only [decide_true,Bool.not_true,cond_false]
    rw [last_at n1 (by omega)]
    simp only [Option.bind_some]
    obtain ⟨kk,hkk⟩:=fol_in h1 ⟨k,hk⟩
    obtain ⟨r,g1,g2,g3⟩:=end_eq (s:=s) (c:=p.getD (p.length - 1) default) (e:=e') (w:=w64 ((List.length p : Int) - 1)) fun v hv=>h.valm hkk hv
    refine ⟨r,g1,?_⟩
    rw [g2]; rfl
   ·rw [h1,h2]
    have hn:=fol_ne h1
    simp only [hn,decide_false,Bool.not_false,cond_true]
    exact zAB rfl
theorem vOk_app {a b:ZN}(ha:1≤a.length) (hb:1≤b.length) (hl:a.length+b.length≤20) : vOk (a++b)=(vOk a&&vOk b):=by
 unfold vOk
 rw [List.all_append]
 have e1 : decide ((1:Int)≤((a++b).length : Int))=true:=by simp; omega
 have e2 : decide (((a++b).length : Int)≤20)=true:=by simp; omega
 have e3 : decide ((1:Int)≤(a.length : Int))=true:=by simp; omega
 have e4 : decide ((a.length : Int)≤20)=true:=by simp; omega
 have e5 : decide ((1:Int)≤(b.length : Int))=true:=by simp; omega
 have e6 : decide ((b.length : Int)≤20)=true:=by simp; omega
 rw [e1,e2,e3,e4,e5,e6]
 simp
theorem resv_app {B s}(h:PI B s){k:Int}{a b:ZN}(ha:1≤a.length) (hb:1≤b.length) (hl:a.length+b.length≤20) :
  if (resv s.1 k a).2=0∧(resv s.1 k a).1.2.2.2=true then resv s.1 k (a++b)=resv s.1 (resv s.1 k a).1.2.2.1 b else (resv s.1 k (a++b)).2≠0:=by
 have hv:=vOk_app ha hb hl
 cases va : vOk a with
 | false =>
  rw [va] at hv
  have h1 : resv s.1 k a=(zDu,1):=by unfold resv; rw [va]; rfl
  have h2 : resv s.1 k (a++b)=(zDu,1):=by unfold resv; rw [hv]; rfl
  rw [h1,h2,if_neg (by simp)]; simp
 | true =>
  cases hk : mget s.1 k with
  | none =>
   have h1 : resv s.1 k a=(zDu,7):=by unfold resv; rw [va,hk]; rfl
   rw [h1,if_neg (by simp)]
   unfold resv; rw [hk]
   cases vOk (a++b) <;> simp
  | some e =>
   obtain ⟨a0,c,rfl⟩ : ∃ a0 c,a=a0++[c]:=⟨a.dropLast,a.getLast (by intro e; subst e; simp at ha),(List.dropLast_concat_getLast _).symm⟩
   have t1 : (a0++[c]).take ((a0++[c]).length - 1)=a0:=by simp
   have t2 : (a0++[c]).getD ((a0++[c]).length - 1) default=c:=by simp
   have t3 : (a0++[c]++b).take ((a0++[c]++b).length - 1)=a0++[c]++b.take (b.length - 1):=by
    have q1 : (a0++[c]++b).length - 1=(a0++[c]).length+(b.length - 1):=by rw [List.length_append]; omega
    rw [q1,List.take_length_add_append]
   have t4 : (a0++[c]++b).getD ((a0++[c]++b).length - 1) default=b.getD (b.length - 1) default:=by
    have q1 : (a0++[c]++b).length - 1=(a0++[c]).length+(b.length - 1):=by rw [List.length_append]; omega
    rw [q1,getD_app,if_neg (by omega),Nat.add_sub_cancel_left]
   have ra : resv s.1 k (a0++[c])=match fol s.1 a0 e with | .inr n=>(zDu,n) | .inl e'=>(tell s.1 c (mget e' c)).getD (zDu,8):=by
    unfold resv; rw [va,hk,t1,t2]; rfl
   have rb : resv s.1 k (a0++[c]++b)=bif !(vOk b) then (zDu,1) else match fol s.1 (a0++[c]++b.take (b.length - 1)) e with | .inr n=>(zDu,n) | .inl e'=>(tell s.1 (b.getD (b.length - 1) default) (mget e' (b.getD (b.length - 1) default))).getD (zDu,8):=by
    unfold resv; rw [hv,va,hk,t3,t4]; rfl
   rw [fol_app,fol_snoc] at rb
   cases hf : fol s.1 a0 e with
   | inr n =>
    rw [hf] at ra rb
    have hn:=fol_ne hf
    simp only at ra rb
    rw [ra,rb,if_neg (fun x=>hn x.1)]
    cases vOk b
    ·simp
    ·simpa using hn
   | inl e' =>
    rw [hf] at ra rb
    simp only at ra rb
    obtain ⟨kk,hkk⟩:=fol_in hf ⟨k,hk⟩
    cases hm : mget e' c with
    | none =>
     rw [hm,tell_n] at ra
     rw [show nxt s.1 e' c=.inr 8 by simp [nxt,hm]] at rb
     rw [ra,rb]
     rw [if_neg (by simp)]
     cases vOk b <;> simp
    | some v =>
     rcases h.valm hkk hm with ⟨t,rfl⟩ | ⟨z,rfl⟩
     ·rw [hm,tell_S] at ra
      rw [show nxt s.1 e' c=.inr 10 by simp [nxt,hm,asI_S]] at rb
      rw [ra,rb]
      rw [if_neg (by simp)]
      cases vOk b <;> simp
     ·rw [hm,tell_I] at ra
      cases hz : mget s.1 z with
      | none =>
       rw [show nxt s.1 e' c=.inr 8 by simp [nxt,hm,asI_I,hz]] at rb
       rw [hz] at ra
       rw [ra,rb]
       rw [if_neg (by simp)]
       cases vOk b <;> simp
      | some e2 =>
       rw [show nxt s.1 e' c=.inl e2 by simp [nxt,hm,asI_I,hz]] at rb
       rw [hz] at ra
       rw [ra,rb]
       rw [if_pos (by simp)]
       simp only [Option.isSome_some,cond_true,Option.getD_some]
       unfold resv
       rw [hz]
theorem g3_t (l:List NAct) (k:Int) (p:ZN) (at':Int) : g3 l k p at'=some true:=by
 apply Tot.eq
 unfold g3
 have h7 : Option.isSome g7=true:=by rw [g7_true]; rfl
 obtain ⟨b1,hb1,hc1⟩:=g6_t l
 obtain ⟨b2,hb2,hc2⟩:=g6_t [(0,0,0,0,p,([] : Str))]
 rw [hb1,hb2,g7_true]
 simp only [Option.bind_some,Option.isSome_some,Option.getD_some,Bool.or_true,cond_true]
 refine zAR (fun _=>zAB rfl) (fun hc=>?_)
 simp at hc
 obtain ⟨⟨⟨⟨e1,e2⟩,e3⟩,e4⟩,e5⟩:=hc
 obtain ⟨l1,l2⟩:=hc1 e1
 simp only [f14,g9,Option.bind_some]
 rw [Int.toNat_natCast]
 refine (acts_t l1 (fun x hx=>(l2 x hx).1)).bind ?_
 rintro o ⟨⟨s,q⟩,rfl,h,_⟩
 simp only at h ⊢
 obtain ⟨n,rfl⟩ : ∃ n : Nat,at'=n:=⟨at'.toNat,by omega⟩
 obtain ⟨a,b,rfl,ha⟩ : ∃ a b,p=a++b∧a.length=n:=⟨p.take n,p.drop n,by simp,by simp; omega⟩
 simp at e4 e5
 have hl : a.length+b.length≤20:=by omega
 have hb : 1≤b.length:=by omega
 have ha1 : 1≤a.length:=by omega
 have hA:=resv_app h (k:=k) ha1 hb hl
 have c1 : ((a++b).take (Int.toNat (n:Int))).drop (Int.toNat 0)=a:=by rw [Int.toNat_natCast,← ha]; simp
 have c2 : ((a++b).take (Int.toNat (List.length (a++b) : Int))).drop (Int.toNat (n:Int))=b:=by rw [Int.toNat_natCast,Int.toNat_natCast,← ha,List.take_of_length_le (Nat.le_refl _)]; simp
 refine (f16_f h k (a++b)).bind fun x hx=>?_
 refine zAi (slOk_t (by omega) (by omega) (by simp; omega)) ?_
 rw [c1,c2]
 refine (f16_f h k a).bind fun y hy=>?_
 rw [← hx,← hy] at hA
 simp only at hA
 refine zAR (fun hc=>?_) (fun hc=>?_)
 ·rw [if_neg (by simp at hc; intro hh; rcases hc with hc | hc; exact hc hh.1; rw [hc] at hh; cases hh.2)] at hA
  refine zAB ?_
  simpa using hA
 ·simp at hc
  rw [if_pos hc] at hA
  refine zAi (slOk_t (by omega) (by simp; omega) (by omega)) ?_
  refine (f16_f h y.1.2.2.1 b).bind fun z hz=>?_
  rw [← hz] at hA
  simp only [Prod.mk.injEq] at hA
  rw [hA.1,hA.2]
  refine zAB ?_
  simp
end Go.Ab
