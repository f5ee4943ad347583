/- Lemmas for a law of the seat: what functions of the program do, each stated as a contract of its own (X5). -/
import Derived.Test.YtlfdbjcbmecmlaaGreatX3
import Derived.Test.YtlfdbjcbmecmlaaGreatX4
set_option linter.unusedVariables false
set_option maxRecDepth 100000
set_option maxHeartbeats 4000000
namespace Go.Ab
open Go.RowKit Go.Shelf Go.Proofs Go.Eng
theorem ent67 : Enters Tryz.prog 67:=enters_of Tryz.func67 (by kernel_rfl) rfl
theorem ent69 : Enters Tryz.prog 69:=enters_of Tryz.func69 (by kernel_rfl) rfl
theorem ent68 : Enters Tryz.prog 68:=enters_of Tryz.func68 (by kernel_rfl) rfl
theorem ent71 : Enters Tryz.prog 71:=enters_of Tryz.func71 (by kernel_rfl) rfl
theorem ent70 : Enters Tryz.prog 70:=enters_of Tryz.func70 (by kernel_rfl) rfl
theorem ent92 : Enters Tryz.prog 92:=enters_of Tryz.func92 (by kernel_rfl) rfl
theorem ent93 : Enters Tryz.prog 93:=enters_of Tryz.func93 (by kernel_rfl) rfl
theorem ent32 : Enters Tryz.prog 32:=enters_of Tryz.func32 (by kernel_rfl) rfl
theorem ent33 : Enters Tryz.prog 33:=enters_of Tryz.func33 (by kernel_rfl) rfl
theorem ent34 : Enters Tryz.prog 34:=enters_of Tryz.func34 (by kernel_rfl) rfl
theorem ent17 : Enters Tryz.prog 17:=enters_of Tryz.func17 (by kernel_rfl) rfl
theorem eq54 {a0 b0:Int}{a1 b1:Int}{a2 b2:ByteArray} : EqT Tryz.prog 54 [.int .i64 a0,.int .i64 a1,.string a2] [.int .i64 b0,.int .i64 b1,.string b2]:=⟨by kernel_rfl,fun w=>run_eqFlat (fs:=(Tryz.prog.fieldsOf 54).toList) (by kernel_rfl) (by kernel_rfl) (by kernel_rfl) (by kernel_rfl)⟩
theorem ent14 : Enters Tryz.prog 14:=enters_of Tryz.func14 (by kernel_rfl) rfl
theorem ent21 : Enters Tryz.prog 21:=enters_of Tryz.func21 (by kernel_rfl) rfl
theorem ent19 : Enters Tryz.prog 19:=enters_of Tryz.func19 (by kernel_rfl) rfl
theorem ent37 : Enters Tryz.prog 37:=enters_of Tryz.func37 (by kernel_rfl) rfl
theorem ent38 : Enters Tryz.prog 38:=enters_of Tryz.func38 (by kernel_rfl) rfl
theorem ent39 : Enters Tryz.prog 39:=enters_of Tryz.func39 (by kernel_rfl) rfl
theorem ent12 : Enters Tryz.prog 12:=enters_of Tryz.func12 (by kernel_rfl) rfl
theorem ent40 : Enters Tryz.prog 40:=enters_of Tryz.func40 (by kernel_rfl) rfl
theorem ent41 : Enters Tryz.prog 41:=enters_of Tryz.func41 (by kernel_rfl) rfl
theorem ent42 : Enters Tryz.prog 42:=enters_of Tryz.func42 (by kernel_rfl) rfl
theorem ent43 : Enters Tryz.prog 43:=enters_of Tryz.func43 (by kernel_rfl) rfl
theorem ent44 : Enters Tryz.prog 44:=enters_of Tryz.func44 (by kernel_rfl) rfl
theorem ent20 : Enters Tryz.prog 20:=enters_of Tryz.func20 (by kernel_rfl) rfl
theorem ent45 : Enters Tryz.prog 45:=enters_of Tryz.func45 (by kernel_rfl) rfl
theorem ent46 : Enters Tryz.prog 46:=enters_of Tryz.func46 (by kernel_rfl) rfl
theorem ent47 : Enters Tryz.prog 47:=enters_of Tryz.func47 (by kernel_rfl) rfl
theorem ent48 : Enters Tryz.prog 48:=enters_of Tryz.func48 (by kernel_rfl) rfl
theorem f20_runs {p0_0:ZW}{p1:Int}{r:List Int×List Int×Int×(ZW)}(hr:f20 p0_0 p1=some r) : Runs Tryz.prog 20 [.ptr 0 0,.i p1] [.tr E76 (some p0_0)] (fun q Hq=>q=[.sl .i r.1,.sl .i r.2.1,.i r.2.2.1]∧Hq=[.tr E76 (some r.2.2.2)]):=by
 refine zAW Tryz.func20 Tryz.ntmps20 J (rs:=[.tmp 4,.tmp 5,.tmp 6]) J J fun w0 X hX=>?_
 obtain ⟨x2,e3,hr⟩:=zA hr
 refine sq<|rg<|V va<|V va<|V va<|nl<|an<|sq<|sq<|rg<|V vm<|V vm<|?_
 refine V (zAM (t:=.i) (qs:=[(0,[.i p1])]) (ys:=[p1]) bs33 J J J J J J J J)<|?_
 refine zAG (zAd (i:=0) (W76 p0_0 1 2) [.map .i Y4 p0_0.2.1,.map .i Y5 p0_0.2.2.1] J J J J)<|V (zAj (as':=[.ptr 0 0,.sl .i [p1]]) (f57_runs e3).x ent57 J ⟨cv0,cv0,trivial⟩ J J)<|V va<|nl<|an<|sq<|rg<|V vm<|V vne<|nl<|an<|?_
 refine cnd (fun hc4 hr=>?_) (fun hc4 hr=>?_)
 ·refine sq<|rg<|V vm<|V va<|V va<|V va<|?_
  obtain rfl:=Option.some.inj hr
  exact nl<|an<|cr<|zAC (zAe (l':=[(4,.sl .i ([] : List Int)),(5,.sl .i ([] : List Int)),(6,.i x2)]) (Hs:=[(0,.tr E76 (some p0_0))]) (n:=1) (Wk.trans (pk (i:=0) (e:=F76) (js:=[1,2]) p0_0) (zAA hX [0] 4 J J ⟨⟨_,rfl,cv2⟩,⟨_,rfl,cv2⟩,⟨_,rfl,cv0⟩,trivial⟩ wO)) J J J ⟨rfl,rfl,rfl,trivial⟩)
 obtain ⟨x5,e6,hr⟩:=zA hr
 refine sk<|an<|sq<|rg<|V vm<|V vm<|?_
 refine zAK (zAp (as':=[.ptr 0 0,.i p1,.i 3]) (f51_runs e6).x ent51 J ⟨cv0,cv0,cv0,trivial⟩ J J J ?_)
 refine O oa<|O os<|nl<|an<|sq<|sq<|rg<|V vm<|V vnp<|V vfp<|V vlp<|?_
 refine zAK (zCW (undX 74 J) J J (fun xs7 hp8=>?_))
 obtain ⟨o13,e14,hr⟩:=zA hr
 refine nl<|an<|bl<|?_
 refine awc_nd (i:=4) J J (fun hn30=>?_)
 refine zCi (S:=(List (Int×Bool))) (R:=Unit) (f20_m0 x5) (fun p=>match p with | (l9,c10,s11)=>(⟨[(0,.ptr 0 0),(4,.nils),(5,.nils),(6,.i 0),(8,.ptr 1 0),(25,.map 2)],[(0,.var 76 (W76 p0_0 3 4)),(1,.var 91 [.map 5,.map 6,.map 7]),(2,.dead),(3,.map .i Y4 p0_0.2.1),(4,.mapr .i Y5 p0_0.2.2.1 l9 c10 2),(5,.map .i .bool x5.1),(6,.map .i .bool s11),(7,.map .i .bool x5.2.2)],8⟩ : AS)) (fun o e st=>match o with | .inr _=>False | .inl s11=>e=.exit 0∧Wk X st ⟨[(0,.ptr 0 0),(4,.nils),(5,.nils),(6,.i 0),(8,.ptr 1 0)],[(0,.var 76 (W76 p0_0 2 3)),(1,.var 91 [.map 4,.map 5,.map 6]),(2,.map .i Y4 p0_0.2.1),(3,.map .i Y5 p0_0.2.2.1),(4,.map .i .bool x5.1),(5,.map .i .bool s11),(6,.map .i .bool x5.2.2)],7⟩) (K:=fun r=>f20_m0_q r o13) (f20_m0_o hn30 e14) hp8 (by exact zAA hX [0,6,7,1,2,3,4,5] 4 J J wS wO) ?_ ?_
 ·intro r hq e st hx
  rcases o13 with s11 | o13
  ·rcases r with s11z | r
   ·have hq : s11z.Perm s11:=hq
    obtain ⟨rfl,hw⟩:=hx
    obtain ⟨x15,e16,hr⟩:=zA hr
    refine bh<|an<|(zAY (Wk.trans hw (wk_perm (i:=5) J J hq)))<|sq<|rg<|V vm<|V vnp<|V vfp<|V vlp<|?_
    refine V (zA4 (us:=[]) (vs:=[.ptr 1 0]) J J)<|?_
    refine zAG (zAA (st':=⟨[(0,.ptr 0 0),(4,.nils),(5,.nils),(6,.i 0),(8,.rp [.dm .i .bool x5.1,.dm .i .bool s11,.dm .i .bool x5.2.2]),(38,.ptr 0 0),(39,.ptr 0 0),(40,.ptr 0 2),(41,.map 2),(42,.fn 69 [] [.rp [.dm .i .bool x5.1,.dm .i .bool s11,.dm .i .bool x5.2.2]])],[(0,.var 76 (W76 p0_0 1 2)),(1,.map .i Y4 p0_0.2.1),(2,.map .i Y5 p0_0.2.2.1)],3⟩) hX [0,2,3] 4 J J wS wO)<|?_
    refine zAK (zAP (σ:=[2]) (as':=[.map 2,.fn 69 [] [.rp [.dm .i .bool x5.1,.dm .i .bool s11,.dm .i .bool x5.2.2]]]) (f68_runs (q1:=(fun y1 y2=>f69 y1 y2 (x5.1,s11,x5.2.2))) (g1:=69) (c1s:=[.rp [.dm .i .bool x5.1,.dm .i .bool s11,.dm .i .bool x5.2.2]]) (fun _ _ r h=>(have h2:=f69_runs h; h2)) ⟨ent69⟩ e16).x ent68 J ⟨cv0,(cv3 J),trivial⟩ J J J ?_)
    obtain ⟨x17,e18,hr⟩:=zA hr
    refine nl<|an<|sq<|rg<|V vm<|V vnp<|V vfp<|V vlp<|?_
    refine V (zA4 (us:=[]) (vs:=[.rp [.dm .i .bool x5.1,.dm .i .bool s11,.dm .i .bool x5.2.2]]) J J)<|?_
    refine zAK (zAP (σ:=[1]) (as':=[.map 1,.fn 71 [] [.rp [.dm .i .bool x5.1,.dm .i .bool s11,.dm .i .bool x5.2.2]]]) (f70_runs (q1:=(fun y1 y2=>f71 y1 y2 (x5.1,s11,x5.2.2))) (g1:=71) (c1s:=[.rp [.dm .i .bool x5.1,.dm .i .bool s11,.dm .i .bool x5.2.2]]) (fun _ _ r h=>(have h2:=f71_runs h; h2)) ⟨ent71⟩ e18).x ent70 J ⟨cv0,(cv3 J),trivial⟩ J J J ?_)
    obtain ⟨x19,e20,hr⟩:=zA hr
    obtain ⟨x21,e22,hr⟩:=zA hr
    refine nl<|an<|sq<|?_
    refine zBE mixed [8] [(true,.rp [.dm .i .bool x5.1,.dm .i .bool s11,.dm .i .bool x5.2.2]),(true,.dm .i .bool x5.1),(true,.sl .i x19),(true,.rp [.dm .i .bool s11,.dm .i .bool x5.2.2]),(true,.dm .i .bool s11),(true,.sl .i x21),(true,.sl .i x19),(true,.sl .i x21),(true,.i 0)] [[],[0],[1],[],[3],[4],[2],[5],[]] [6,7,8] J J J J J ⟨oB wfr,oB wlr,zAr J (fun hg=>zAD ⟨rfl,trivial⟩) (fun hg=>zBD (as':=[.dm .i .bool x5.1]) (Hs:=[.sl 3 .i x19]) (zCU e20).x ent52 J ⟨cv0,trivial⟩ J J J),oB wfr,oB wlr,zAr J (fun hg=>zAD ⟨rfl,trivial⟩) (fun hg=>zBD (as':=[.dm .i .bool s11]) (Hs:=[.sl 3 .i x21]) (zCU e22).x ent52 J ⟨cv0,trivial⟩ J J J),oB wa,oB wa,oB wa,trivial⟩ (zAD ⟨rfl,rfl,rfl,trivial⟩) ?_
    obtain rfl:=Option.some.inj hr
    exact zAZ (zAw (zAe (l':=[(4,.sl .i x19),(5,.sl .i x21),(6,.i 0)]) (Hs:=[(0,.tr E76 (some (p0_0.1,x17,x15,p0_0.2.2.2.1,p0_0.2.2.2.2)))]) (n:=1) (Wk.trans (pk (i:=0) (e:=F76) (js:=[1,2]) (p0_0.1,x17,x15,p0_0.2.2.2.1,p0_0.2.2.2.2)) (zAA hX [0] 4 J J wS wO)) J J J ⟨rfl,rfl,rfl,trivial⟩))
   exact hq.elim
  rcases r with r | r
  ·exact hq.elim
  exact hx.elim
 rintro l9 c10 s11 K' hr
 refine sq<|rg<|?_
 refine zAK (zCr (i:=4) J J J (fun h26=>?_) (fun q23 p24 hq25=>?_))
 ·have hk:=hr.1 h26
  refine V vx<|?_
  exact zAJ (zAZ (awc_seq (zA3 J (zAH (zAF (⟨_,hk,rfl,(Wk.trans (wk_endr (i:=4) J J) (zAA hX [0,1,3,4,5,6,7] 4 J J wS wO))⟩))))))
 obtain ⟨o,hr,hk⟩:=hr.2 q23 p24 hq25
 obtain ⟨x27,e28,hr⟩:=zA hr
 refine V vx<|nl<|an<|sq<|?_
 refine zCZ rfl<|sk<|an<|bl<|sq<|rg<|V (zCq (i:=4) J J J J)<|V vx<|V vx<|O oa<|V va<|O os<|nl<|an<|sq<|rg<|V vfp<|V vlp<|?_
 refine V (zA4 (us:=[]) (vs:=[.ptr 1 0]) J J)<|?_
 refine V (zAj (as':=[.sl .i p24.2.2.2,.fn 67 [] [.ptr 1 0]]) (f66_runs (q1:=(fun y1=>f67 y1 (x5.1,s11,x5.2.2))) (g1:=67) (c1s:=[.rp [.dm .i .bool x5.1,.dm .i .bool s11,.dm .i .bool x5.2.2]]) (fun _ r h=>(have h2:=f67_runs h; h2)) ⟨ent67⟩ e28).x ent66 J ⟨cv0,(cv3 J),trivial⟩ J J)<|nl<|an<|?_
 refine cnd (fun hc29 hr=>?_) (fun hc29 hr=>?_)
 ·refine rg<|V vfp<|V vlp<|V vm<|?_
  refine zAK (zB (kx:=p24.1) (vx:=true) (undX 89 J) kt3 (.inl J) J J J J J J J ?_)
  obtain rfl:=Option.some.inj hr
  exact zAJ (zAS (⟨_,hk (some p24),(zAA hX [0,1,2,3,4,5,6,7] 4 J J wS wO)⟩))
 obtain rfl:=Option.some.inj hr
 exact zAv (zAS (⟨_,hk (some p24),(zAA hX [0,1,2,3,4,5,6,7] 4 J J wS wO)⟩))
theorem f45_runs {p0_0:ZR}{p1:Int}{r:List Int×List Int×Int×(ZR)}(hr:f45 p0_0 p1=some r) : Runs Tryz.prog 45 [.ptr 0 0,.i p1] [.tr E80 (some p0_0)] (fun q Hq=>q=[.sl .i r.1,.sl .i r.2.1,.i r.2.2.1]∧Hq=[.tr E80 (some r.2.2.2)]):=by
 refine zAW Tryz.func45 Tryz.ntmps45 J (rs:=[.tmp 4,.tmp 5,.tmp 6]) J J fun w0 X hX=>?_
 refine sq<|rg<|V va<|V va<|V va<|nl<|an<|sq<|sq<|rg<|V vm<|V vls<|nl<|an<|?_
 refine cnd (fun hc2 hr=>?_) (fun hc2 hr=>?_)
 ·refine sq<|rg<|V va<|V va<|V va<|?_
  obtain rfl:=Option.some.inj hr
  exact nl<|an<|cr<|zAC (zAe (l':=[(4,.sl .i ([] : List Int)),(5,.sl .i ([] : List Int)),(6,.i 7)]) (Hs:=[(0,.tr E80 (some p0_0))]) (n:=1) (zAA hX [0] 4 J J ⟨⟨_,rfl,cv2⟩,⟨_,rfl,cv2⟩,⟨_,rfl,cv0⟩,trivial⟩ wO) J J J ⟨rfl,rfl,rfl,trivial⟩)
 obtain ⟨x3,e4,hr⟩:=zA hr
 refine sk<|an<|sq<|sq<|rg<|V vm<|V vm<|?_
 refine zAG (zAd (i:=0) [.sl Y2 p0_0.1,.osl 1,.osl 2,.i p0_0.2.2.2.1,.i p0_0.2.2.2.2] [.sl 54 Y4 p0_0.2.1,.sl 42 Y5 p0_0.2.2.1] J J J J)<|V (zAj (as':=[.ptr 0 0,.i p1]) (f82_runs e4).x ent82 J ⟨cv0,cv0,trivial⟩ J J)<|V vno<|nl<|an<|?_
 refine cnd (fun hc5 hr=>?_) (fun hc5 hr=>?_)
 ·refine sq<|rg<|V va<|V va<|V va<|?_
  obtain rfl:=Option.some.inj hr
  exact nl<|an<|cr<|zAC (zAe (l':=[(4,.sl .i ([] : List Int)),(5,.sl .i ([] : List Int)),(6,.i 8)]) (Hs:=[(0,.tr E80 (some p0_0))]) (n:=1) (Wk.trans (pk (i:=0) (e:=F80) (js:=[1,2]) p0_0) (zAA hX [0] 4 J J ⟨⟨_,rfl,cv2⟩,⟨_,rfl,cv2⟩,⟨_,rfl,cv0⟩,trivial⟩ wO)) J J J ⟨rfl,rfl,rfl,trivial⟩)
 obtain ⟨x6,e7,hr⟩:=zA hr
 refine sk<|an<|sq<|rg<|V vm<|V vm<|?_
 refine zAK (zAp (as':=[.ptr 0 0,.i p1,.i 3]) (f90_runs e7).x ent90 J ⟨cv0,cv0,cv0,trivial⟩ J J J ?_)
 obtain ⟨o13,e14,hr⟩:=zA hr
 refine V vm<|V vx<|V vx<|V vx<|V va<|V va<|V va<|nl<|an<|sq<|rg<|V va<|nl<|an<|sq<|sq<|rg<|V vm<|V vnp<|V vfp<|V vlp<|V vnL<|V vm<|nl<|an<|bl<|?_
 refine zA5 (i:=2) J J (fun hl=>?_)
 refine zAI (List.length p0_0.2.2.1 : Int) (f45_b0 p0_0 x6) (fun p=>match p with | (i8,s10)=>(⟨[(0,.ptr 0 0),(4,.nils),(5,.nils),(6,.i 0),(7,.osl 1),(8,.osl 2),(10,.osl 3),(35,.osl 4),(36,.i (List.length p0_0.2.2.1 : Int)),(37,.i i8)],[(0,.var 80 [.sl Y2 p0_0.1,.osl 5,.osl 4,.i p0_0.2.2.2.1,.i p0_0.2.2.2.2]),(1,.sl 3 .i x6.1),(2,.sl 3 .i x6.2.1),(3,.sl 3 .i s10),(4,.sl 42 Y5 p0_0.2.2.1),(5,.sl 54 Y4 p0_0.2.1)],6⟩ : AS)) (fun o e st=>match o with | .inr _=>False | .inl s10=>e=.exit 0∧Wk X st ⟨[(0,.ptr 0 0),(4,.nils),(5,.nils),(6,.i 0),(7,.osl 1),(10,.osl 2)],[(0,.var 80 [.sl Y2 p0_0.1,.osl 4,.osl 3,.i p0_0.2.2.2.1,.i p0_0.2.2.2.2]),(1,.sl 3 .i x6.1),(2,.sl 3 .i s10),(3,.sl 42 Y5 p0_0.2.2.1),(4,.sl 54 Y4 p0_0.2.1)],5⟩) (zAf hl) e14 (Wk.trans (zAt (t:=10) 3 .i J) (by exact zAA hX [0,3,4,6,2,1] 4 J J wS wO)) ?_ ?_
 ·intro e st hx
  rcases o13 with s10 | _
  ·obtain ⟨rfl,hw⟩:=hx
   obtain ⟨x15,e16,hr⟩:=zA hr
   refine bh<|an<|(zAY hw)<|sq<|rg<|V vm<|V vm<|?_
   refine zAG (wk_frz [10,67] 2 J J J)<|zAG (pk (i:=0) (e:=F80) (js:=[4,3]) p0_0)<|?_
   refine zAK (zAP (σ:=[0]) (as':=[.ptr 0 0,.sl .i s10]) (f86_runs e16).x ent86 J ⟨cv0,cv0,trivial⟩ J J J ?_)
   obtain ⟨o22,e23,hr⟩:=zA hr
   refine nl<|an<|sq<|rg<|V va<|nl<|an<|sq<|sq<|rg<|V vm<|V vnp<|V vfp<|?_
   refine zAG (zAd (i:=0) [.sl Y2 x15.1,.osl 5,.osl 6,.i x15.2.2.2.1,.i x15.2.2.2.2] [.sl 54 Y4 x15.2.1,.sl 42 Y5 x15.2.2.1] J J J J)<|V vlp<|V vnL<|V vm<|nl<|an<|bl<|?_
   refine zA5 (i:=5) J J (fun hl=>?_)
   refine zAI (List.length x15.2.1 : Int) (f45_b1 x6 x15) (fun p=>match p with | (i17,s19)=>(⟨[(0,.ptr 0 0),(4,.nils),(5,.nils),(6,.i 0),(7,.osl 1),(10,.sl .i s10),(16,.osl 2),(72,.osl 3),(73,.i (List.length x15.2.1 : Int)),(74,.i i17)],[(0,.var 80 [.sl Y2 x15.1,.osl 3,.osl 4,.i x15.2.2.2.1,.i x15.2.2.2.2]),(1,.sl 3 .i x6.1),(2,.sl 54 Y4 s19),(3,.sl 54 Y4 x15.2.1),(4,.sl 42 Y5 x15.2.2.1)],5⟩ : AS)) (fun o e st=>match o with | .inr _=>False | .inl s19=>e=.exit 4∧Wk X st ⟨[(0,.ptr 0 0),(4,.nils),(5,.nils),(6,.i 0),(7,.osl 1),(10,.sl .i s10),(16,.osl 2)],[(0,.var 80 [.sl Y2 x15.1,.osl 3,.osl 4,.i x15.2.2.2.1,.i x15.2.2.2.2]),(1,.sl 3 .i x6.1),(2,.sl 54 Y4 s19),(3,.sl 54 Y4 x15.2.1),(4,.sl 42 Y5 x15.2.2.1)],5⟩) (zAf hl) e23 (Wk.trans (zAt (t:=16) 54 Y4 J) (by exact zAA hX [0,1,7,5,6] 4 J J wS wO)) ?_ ?_
   ·intro e st hx
    rcases o22 with s19 | _
    ·obtain ⟨rfl,hw⟩:=hx
     refine bh<|an<|(zAY hw)<|sq<|rg<|V vm<|V vm<|V vnp<|V vfp<|O os<|nl<|an<|sq<|rg<|V vm<|V vm<|V va<|V va<|V va<|?_
     obtain rfl:=Option.some.inj hr
     exact nl<|an<|cr<|zAe (l':=[(4,.sl .i x6.1),(5,.sl .i s10),(6,.i 0)]) (Hs:=[(0,.tr E80 (some (x15.1,s19,x15.2.2.1,x15.2.2.2.1,x15.2.2.2.2)))]) (n:=1) (Wk.trans (pk (i:=0) (e:=F80) (js:=[2,4]) (x15.1,s19,x15.2.2.1,x15.2.2.2.1,x15.2.2.2.2)) (zAA hX [0] 4 J J wS wO)) J J J ⟨rfl,rfl,rfl,trivial⟩
    exact hx.elim
   rintro i17 s19 o ho
   refine sq<|rg<|V vls<|nl<|an<|sq<|?_
   refine zAO (b:=decide (i17 < (List.length x15.2.1 : Int))) J (fun hc24=>?_) (fun hc24=>?_)
   ·obtain ⟨q,hr,rfl⟩:=zA7 hc24 ho
    obtain ⟨o26,e27,hr⟩:=zA hr
    refine sk<|an<|?_
    refine zAy (S:=(List (Int×Int×Str))) (R:=Unit) (fun s=>match s with | s25=>(⟨[(0,.ptr 0 0),(4,.nils),(5,.nils),(6,.i 0),(7,.osl 1),(10,.sl .i s10),(16,.osl 2),(72,.osl 3),(73,.i (List.length x15.2.1 : Int)),(74,.i i17)],[(0,.var 80 [.sl Y2 x15.1,.osl 3,.osl 4,.i x15.2.2.2.1,.i x15.2.2.2.2]),(1,.sl 3 .i x6.1),(2,.sl 54 Y4 s25),(3,.sl 54 Y4 x15.2.1),(4,.sl 42 Y5 x15.2.2.1)],5⟩ : AS)) (fun _ _ _=>False) e27 (fun hr=>?_) ?_ ?_
    ·obtain ⟨x28,e29,hr⟩:=zA hr
     obtain ⟨x30,e31,hr⟩:=zA hr
     refine bl<|sq<|rg<|V (zAn (t:=Y4) (undX 52 J) (szX 54 J) J J J e29)<|?_
     refine V (zB5 (tsX 54 J) J J J (zCM e29) J J)<|O oa<|O os<|nl<|an<|sq<|rg<|V vm<|V vfp<|V vlp<|?_
     refine V (zAj (as':=[.osl 1,.i x28.1]) (zBY e31).x zB9 J ⟨cv0,cv0,trivial⟩ J J)<|V vno<|nl<|an<|?_
     refine cnd (fun hc32 hr=>?_) (fun hc32 hr=>?_)
     ·refine rg<|V vm<|V vlP<|?_
      refine V (zAM (t:=Y4) (qs:=[(0,[.i x28.1,.i x28.2.1,.str x28.2.2])]) (ys:=[x28]) bs52 J J J J J J J J)<|?_
      obtain ⟨h33,hr⟩:=zAN hr
      refine zAK (zAh J J app52 J J J h33 J ?_)
      refine V va<|?_
      obtain rfl:=Option.some.inj hr
      exact zAJ (zAS ((zAA hX [0,1,6,3,4] 4 J J wS wO)))
     obtain rfl:=Option.some.inj hr
     exact zAv (zAS ((zAA hX [0,1,2,3,4] 4 J J wS wO)))
    ·rintro s25 rfl
     refine rg<|V vad<|V vm<|?_
     obtain rfl:=Option.some.inj hr
     exact zAJ ((zAA hX [0,1,2,3,4] 4 J J wS wO))
    exact fun r h e st hne hx=>hx.elim
   obtain rfl:=zA8 hc24 ho
   exact zAH (zAF (⟨rfl,(zAA hX [0,1,2,3,4] 4 J J wS wO)⟩))
  exact hx.elim
 rintro i8 s10 o ho
 refine sq<|rg<|V vls<|nl<|an<|sq<|?_
 refine zAO (b:=decide (i8 < (List.length p0_0.2.2.1 : Int))) J (fun hc34=>?_) (fun hc34=>?_)
 ·obtain ⟨q,hr,rfl⟩:=zA7 hc34 ho
  obtain ⟨o36,e37,hr⟩:=zA hr
  refine sk<|an<|?_
  refine zAy (S:=List Int) (R:=Unit) (fun s=>match s with | s35=>(⟨[(0,.ptr 0 0),(4,.nils),(5,.nils),(6,.i 0),(7,.osl 1),(8,.osl 2),(10,.osl 3),(35,.osl 4),(36,.i (List.length p0_0.2.2.1 : Int)),(37,.i i8)],[(0,.var 80 [.sl Y2 p0_0.1,.osl 5,.osl 4,.i p0_0.2.2.2.1,.i p0_0.2.2.2.2]),(1,.sl 3 .i x6.1),(2,.sl 3 .i x6.2.1),(3,.sl 3 .i s35),(4,.sl 42 Y5 p0_0.2.2.1),(5,.sl 54 Y4 p0_0.2.1)],6⟩ : AS)) (fun _ _ _=>False) e37 (fun hr=>?_) ?_ ?_
  ·obtain ⟨x38,e39,hr⟩:=zA hr
   obtain ⟨x40,e41,hr⟩:=zA hr
   obtain ⟨o47,e48,hr⟩:=zA hr
   refine bl<|sq<|rg<|V (zAn (t:=Y5) (undX 78 J) (szX 42 J) J J J e39)<|?_
   refine V (zB5 (tsX 42 J) J J J (zCM e39) J J)<|O oa<|O os<|nl<|an<|sq<|rg<|V vm<|V vfp<|V vlp<|?_
   refine V (zAj (as':=[.osl 2,.i x38.1]) (zBY e41).x zB9 J ⟨cv0,cv0,trivial⟩ J J)<|V va<|nl<|an<|sq<|sq<|rg<|V vfp<|V vlp<|V vnl<|V vm<|nl<|an<|bl<|?_
   refine zAb (t:=46) J (fun hl=>?_)
   refine zAI (List.length x38.2.2 : Int) (f45_b2 x6 x38) (fun p=>match p with | (i42,s43)=>(⟨[(0,.ptr 0 0),(4,.nils),(5,.nils),(6,.i 0),(7,.osl 1),(8,.osl 2),(10,.osl 3),(12,.ptr 4 0),(13,.bool s43),(35,.osl 5),(36,.i (List.length p0_0.2.2.1 : Int)),(37,.i i8),(46,.sl .i x38.2.2),(47,.i (List.length x38.2.2 : Int)),(48,.i i42)],[(0,.var 80 [.sl Y2 p0_0.1,.osl 6,.osl 5,.i p0_0.2.2.2.1,.i p0_0.2.2.2.2]),(1,.sl 3 .i x6.1),(2,.sl 3 .i x6.2.1),(3,.sl 3 .i s10),(4,.var 42 [.i x38.1,.str x38.2.1,.sl .i x38.2.2]),(5,.sl 42 Y5 p0_0.2.2.1),(6,.sl 54 Y4 p0_0.2.1)],7⟩ : AS)) (fun o e st=>match o with | .inr _=>False | .inl s43=>e=.exit 2∧Wk X st ⟨[(0,.ptr 0 0),(4,.nils),(5,.nils),(6,.i 0),(7,.osl 1),(8,.osl 2),(10,.osl 3),(12,.ptr 4 0),(13,.bool s43),(35,.osl 5),(36,.i (List.length p0_0.2.2.1 : Int)),(37,.i i8)],[(0,.var 80 [.sl Y2 p0_0.1,.osl 6,.osl 5,.i p0_0.2.2.2.1,.i p0_0.2.2.2.2]),(1,.sl 3 .i x6.1),(2,.sl 3 .i x6.2.1),(3,.sl 3 .i s10),(4,.var 42 [.i x38.1,.str x38.2.1,.sl .i x38.2.2]),(5,.sl 42 Y5 p0_0.2.2.1),(6,.sl 54 Y4 p0_0.2.1)],7⟩) (zAf hl) e48 (by exact zAA hX [0,1,2,3,6,4,5] 4 J J wS wO) ?_ ?_
   ·intro e st hx
    rcases o47 with s43 | _
    ·obtain ⟨rfl,hw⟩:=hx
     refine bh<|an<|(zAY hw)<|sq<|rg<|V vm<|nl<|an<|?_
     refine cnd (fun hc49 hr=>?_) (fun hc49 hr=>?_)
     ·refine rg<|V vm<|V vfp<|V vlp<|?_
      refine V (zAM (t:=.i) (qs:=[(0,[.i x38.1])]) (ys:=[x38.1]) bs33 J J J J J J J J)<|?_
      obtain ⟨h50,hr⟩:=zAN hr
      refine zAK (zAh J J zCt J J J h50 J ?_)
      refine V va<|?_
      obtain rfl:=Option.some.inj hr
      exact zAJ (zAS ((zAA hX [0,1,2,7,5,6] 4 J J wS wO)))
     obtain rfl:=Option.some.inj hr
     exact zAv (zAS ((zAA hX [0,1,2,3,5,6] 4 J J wS wO)))
    exact hx.elim
   rintro i42 s43 o ho
   refine sq<|rg<|V vls<|nl<|an<|sq<|?_
   refine zAO (b:=decide (i42 < (List.length x38.2.2 : Int))) J (fun hc51=>?_) (fun hc51=>?_)
   ·obtain ⟨q,hr,rfl⟩:=zA7 hc51 ho
    obtain ⟨x52,e53,hr⟩:=zA hr
    refine sk<|an<|sq<|bl<|sq<|rg<|V (zAQ (t:=.i) (e:=x52) (undX 33 J) (szX 3 J) J J e53)<|V vlr<|V va<|nl<|an<|?_
    obtain ⟨h54,hr⟩:=zAN hr
    refine zBy 6 [0,4,5,6,7,8,10,12,13,35,36,37,46,47,48,15] [(true,.bool s43),(true,.bool s43),(!s43,.osl 1),(!s43,.i x52),(!s43,.bool ((f15 x6.1 x52).getD default)),(true,.bool (s43||((f15 x6.1 x52).getD default)))] [[],[0],[1],[1],[2,3,1],[4,1]] [5] J J J J J J ⟨oB wm,oB wm,oB wm,oB wm,zAr ⟨rfl,rfl,rfl,_,rfl,rfl⟩ (fun hg=>zAD ⟨hg,hg,rfl,trivial⟩) (fun hg=>zAj (as':=[.osl 1,.i x52]) (zBY (zAz h54 hg)).x zB9 J ⟨cv0,cv0,trivial⟩ J J),zBr,trivial⟩ (zAD ⟨rfl,trivial⟩) ?_
    refine V va<|nl<|bn<|an<|rg<|V vad<|V vm<|?_
    obtain rfl:=Option.some.inj hr
    exact zAJ ((zAA hX [0,1,2,3,4,5,6] 4 J J wS wO))
   obtain rfl:=zA8 hc51 ho
   exact zAH (zAF (⟨rfl,(zAA hX [0,1,2,3,4,5,6] 4 J J wS wO)⟩))
  ·rintro s35 rfl
   refine rg<|V vad<|V vm<|?_
   obtain rfl:=Option.some.inj hr
   exact zAJ ((zAA hX [0,1,2,3,4,5] 4 J J wS wO))
  exact fun r h e st hne hx=>hx.elim
 obtain rfl:=zA8 hc34 ho
 exact zAH (zAF (⟨rfl,(zAA hX [0,1,3,4,5] 4 J J wS wO)⟩))
theorem f93_runs {p0:Int}{p1:List (Int×Bool)}{r:Bool}(hr:f93 p0 p1=some r) : zBb Tryz.prog 93 [.i p0,.rp [.dm .i .bool p1]] [.bool r]:=by
 refine zAW Tryz.func93 Tryz.ntmps93 J (rs:=[.tmp 3]) J J fun w0 X hX=>?_
 refine sq<|rg<|V va<|nl<|an<|sq<|rg<|V vlr<|V vm<|?_
 refine V (zBA (kx:=p0) (r:=.bool ((mget p1 p0).getD false)) (undX 89 J) kt3 zw4 J J J J)<|V va<|?_
 obtain rfl:=Option.some.inj hr
 exact nl<|an<|cr<|zAk (l':=[(3,.bool ((mget p1 p0).getD false))]) (zAA hX [] 4 J J wS trivial) J ⟨rfl,trivial⟩
theorem f46_runs {p0:ZW}{p1:Int}{p2:Int}{r:Int×List Int}(hr:f46 p0 p1 p2=some r) : Runs Tryz.prog 46 [.rp (D76 p0),.i p1,.i p2] [] (fun q Hq=>q=[.osl 0,.i r.1]∧Hq=[.sl 3 .i r.2]):=by
 refine zAW Tryz.func46 Tryz.ntmps46 J (rs:=[.tmp 6,.tmp 7]) J J fun w0 X hX=>?_
 refine sq<|rg<|V va<|V va<|nl<|an<|sq<|sq<|rg<|V vm<|?_
 refine V (zCj (undX 26 J) J J)<|nl<|an<|?_
 refine zA3 rfl<|sk<|an<|sq<|sq<|rg<|V vm<|V vls<|nl<|an<|?_
 refine cnd (fun hc2 hr=>?_) (fun hc2 hr=>?_)
 ·refine sq<|rg<|V va<|V va<|?_
  obtain rfl:=Option.some.inj hr
  exact nl<|an<|cr<|zAC (zAe (l':=[(6,.osl 0),(7,.i 7)]) (Hs:=[(0,.sl 3 .i ([] : List Int))]) (n:=1) (Wk.trans (zAt (t:=6) 3 .i J) (zAA hX [0] 4 J J wS wO)) J J J ⟨rfl,rfl,trivial⟩)
 obtain ⟨x3,e4,hr⟩:=zA hr
 refine sk<|an<|sq<|sq<|rg<|V vm<|V vm<|?_
 refine V (zAM (t:=.i) (qs:=[(0,[.i p1])]) (ys:=[p1]) bs33 J J J J J J J J)<|?_
 refine V (zAV (f50_runs e4).x ent50 J J)<|V va<|nl<|an<|sq<|rg<|V vm<|V vne<|nl<|an<|?_
 refine cnd (fun hc5 hr=>?_) (fun hc5 hr=>?_)
 ·refine sq<|rg<|V vm<|V va<|V va<|?_
  obtain rfl:=Option.some.inj hr
  exact nl<|an<|cr<|zAC (zAe (l':=[(6,.osl 0),(7,.i x3)]) (Hs:=[(0,.sl 3 .i ([] : List Int))]) (n:=1) (Wk.trans (zAt (t:=6) 3 .i J) (zAA hX [0] 4 J J wS wO)) J J J ⟨rfl,rfl,trivial⟩)
 refine sk<|an<|sq<|rg<|?_
 refine zAK (zB6 .i .bool J ?_)
 refine V vm<|?_
 refine zAK (zB (kx:=p1) (vx:=true) (undX 89 J) kt3 (.inr J) J J J J J J J ?_)
 obtain ⟨s14,e16,hr⟩:=zA hr
 refine V vm<|O oa<|O os<|nl<|an<|sq<|sq<|rg<|V va<|nl<|an<|bl<|?_
 refine awc_loop (S:=Int×Int×(List (Int×Bool))) (R:=(List (Int×Bool))) (fun p=>match p with | (s6,s7,s8)=>(⟨[(0,.rp (D76 p0)),(2,.i s6),(6,.nils),(7,.i 0),(9,.ptr 0 0),(10,.i s7)],[(0,.var 89 [.map 1]),(1,.map .i .bool s8)],2⟩ : AS)) (f46_b0 p0) (fun r e st=>match r with | s14=>e=.exit 0∧Wk X st ⟨[(6,.nils),(7,.i 0),(9,.ptr 0 0)],[(0,.var 89 [.map 1]),(1,.map .i .bool s14)],2⟩) e16 (by exact zAA hX [1,0] 4 J J wS wO) ?_ ?_
 ·intro e st hx
  obtain ⟨rfl,hw⟩:=hx
  obtain ⟨x17,e18,hr⟩:=zA hr
  refine bh<|an<|(zAY hw)<|sq<|rg<|V vlp<|?_
  refine zAK (zAp (as':=[.map 1]) (zCU e18).x ent52 J ⟨cv0,trivial⟩ J J J ?_)
  refine V va<|V va<|?_
  obtain rfl:=Option.some.inj hr
  exact nl<|an<|cr<|zAe (l':=[(6,.osl 0),(7,.i 0)]) (Hs:=[(0,.sl 3 .i x17)]) (n:=1) (zAA hX [2] 4 J J wS wO) J J J ⟨rfl,rfl,trivial⟩
 rintro ⟨s6,s7,s8⟩ o hr
 refine sq<|sq<|?_
 refine zAa [0,2,6,7,9,10] [(true,.i s6),(true,.bool (decide (0 < s6))),(true,.bool (decide (0 < s6))),(decide (0 < s6),.map 1),(decide (0 < s6),.i (List.length s8 : Int)),(decide (0 < s6),.i s7),(decide (0 < s6),.bool (!decide ((List.length s8 : Int)=s7))),(true,.bool ((decide (0 < s6))&&(!decide ((List.length s8 : Int)=s7))))] [[],[0],[1],[2],[3,2],[2],[4,5,2],[6,2]] [7] J J J J J ⟨oB wm,oB wgt,oB wm,oB wlp,zAr ⟨rfl,rfl,rfl,_,rfl,rfl⟩ (fun hg=>zAD ⟨hg,rfl,trivial⟩) (fun hg=>zCa (tk:=.i) (tv:=.bool) J J (undX 89 J) J J),oB wm,oB wne,zBe,trivial⟩ (zAD ⟨rfl,trivial⟩) ?_
 refine an<|?_
 refine cnd (fun hc19 hr=>?_) (fun hc19 hr=>?_)
 ·obtain ⟨x20,e21,hr⟩:=zA hr
  refine sk<|an<|sq<|bl<|sq<|rg<|V vlp<|?_
  refine V (zCa (tk:=.i) (tv:=.bool) J J (undX 89 J) J J)<|V va<|nl<|an<|sq<|rg<|V vlp<|?_
  refine zAK (zAP (σ:=[1]) (as':=[.map 1]) (f92_runs e21).x ent92 J ⟨cv0,trivial⟩ J J J ?_)
  refine V va<|nl<|an<|sq<|sq<|rg<|V vm<|V vnr<|V vfr<|V vlr<|?_
  refine zAK (aop_range_dm (undX 74 J) J (fun xs22 hp23=>?_))
  obtain ⟨o28,e29,hr⟩:=zA hr
  refine nl<|an<|bl<|?_
  refine awc_nd (i:=2) J J (fun hn47=>?_)
  refine zCi (S:=(List (Int×Bool))) (R:=Unit) (f46_m1 s8) (fun p=>match p with | (l24,c25,s26)=>(⟨[(0,.rp (D76 p0)),(2,.i s6),(6,.nils),(7,.i 0),(9,.ptr 0 0),(10,.i (List.length s8 : Int)),(11,.map 1),(48,.map 2)],[(0,.var 89 [.map 3]),(1,.map .i .bool s26),(2,.mit .i Y5 l24 c25),(3,.map .i .bool s8)],4⟩ : AS)) (fun o e st=>match o with | .inr _=>False | .inl s26=>e=.exit 2∧Wk X st ⟨[(0,.rp (D76 p0)),(2,.i s6),(6,.nils),(7,.i 0),(9,.ptr 0 0),(10,.i (List.length s8 : Int)),(11,.map 1)],[(0,.var 89 [.map 2]),(1,.map .i .bool s26),(2,.map .i .bool s8)],3⟩) (K:=fun r=>f46_m1_q r o28) (f46_m1_o hn47 e29) hp23 (by exact zAA hX [0,2,3,1] 4 J J wS wO) ?_ ?_
  ·intro r hq e st hx
   rcases o28 with s26 | o28
   ·rcases r with s26z | r
    ·have hq : s26z.Perm s26:=hq
     obtain ⟨rfl,hw⟩:=hx
     refine bh<|an<|(zAY (Wk.trans hw (wk_perm (i:=1) J J hq)))<|rg<|V vm<|O os<|nl<|bn<|an<|rg<|V vm<|V vsu<|V va<|?_
     obtain rfl:=Option.some.inj hr
     exact zAJ ((zAA hX [0,1] 4 J J wS wO))
    exact hq.elim
   rcases r with r | r
   ·exact hq.elim
   exact hx.elim
  rintro l24 c25 s26 K' hr
  refine sq<|rg<|?_
  refine zAK (aop_next_dm J J (fun h33=>?_) (fun q30 p31 hq32=>?_))
  ·have hk:=hr.1 h33
   refine V vx<|?_
   exact zAJ (zAZ (awc_seq (zA3 J (zAH (zAF (⟨_,hk,rfl,(zAA hX [0,1,3] 4 J J wS wO)⟩))))))
  obtain ⟨o,hr,hk⟩:=hr.2 q30 p31 hq32
  obtain ⟨x34,e35,hr⟩:=zA hr
  refine V vx<|nl<|an<|sq<|?_
  refine zCZ rfl<|sk<|an<|bl<|sq<|rg<|V (av_entry_dm J J J)<|V vx<|O oa<|O os<|nl<|an<|sq<|rg<|V vfp<|V vlp<|?_
  refine V (zA4 (us:=[]) (vs:=[.ptr 0 0]) J J)<|?_
  refine V (zAj (as':=[.sl .i p31.2.2.2,.fn 93 [] [.ptr 0 0]]) (f66_runs (q1:=(fun y1=>f93 y1 s8)) (g1:=93) (c1s:=[.rp [.dm .i .bool s8]]) (fun _ r h=>(have h2:=f93_runs h; h2)) ⟨ent93⟩ e35).x ent66 J ⟨cv0,(cv3 J),trivial⟩ J J)<|nl<|an<|?_
  refine cnd (fun hc36 hr=>?_) (fun hc36 hr=>?_)
  ·obtain ⟨o42,e43,hr⟩:=zA hr
   refine sq<|rg<|V vfp<|V vlp<|V vnl<|V vm<|nl<|an<|bl<|?_
   refine zAb (t:=54) J (fun hl=>?_)
   refine zAI (List.length p31.2.2.2 : Int) (f46_b2 p31) (fun p=>match p with | (i37,s39)=>(⟨[(0,.rp (D76 p0)),(2,.i s6),(6,.nils),(7,.i 0),(9,.ptr 0 0),(10,.i (List.length s8 : Int)),(11,.map 1),(48,.map 2),(58,.sl .i p31.2.2.2),(59,.i (List.length p31.2.2.2 : Int)),(60,.i i37)],[(0,.var 89 [.map 3]),(1,.map .i .bool s39),(2,.mit .i Y5 (l24.eraseIdx q30) (some p31)),(3,.map .i .bool s8)],4⟩ : AS)) (fun o e st=>match o with | .inr _=>False | .inl s39=>e=.exit 4∧Wk X st ⟨[(0,.rp (D76 p0)),(2,.i s6),(6,.nils),(7,.i 0),(9,.ptr 0 0),(10,.i (List.length s8 : Int)),(11,.map 1),(48,.map 2)],[(0,.var 89 [.map 3]),(1,.map .i .bool s39),(2,.mit .i Y5 (l24.eraseIdx q30) (some p31)),(3,.map .i .bool s8)],4⟩) (zAf hl) e43 (by exact zAA hX [0,1,2,3] 4 J J wS wO) ?_ ?_
   ·intro e st hx
    rcases o42 with s39 | _
    ·obtain ⟨rfl,hw⟩:=hx
     obtain rfl:=Option.some.inj hr
     exact zAl (zAS (⟨_,hk (some p31),(Wk.trans hw (zAA hX [0,1,2,3] 4 J J wS wO))⟩))
    exact hx.elim
   rintro i37 s39 o ho
   refine sq<|rg<|V vls<|nl<|an<|sq<|?_
   refine zAO (b:=decide (i37 < (List.length p31.2.2.2 : Int))) J (fun hc44=>?_) (fun hc44=>?_)
   ·obtain ⟨q,hr,rfl⟩:=zA7 hc44 ho
    obtain ⟨x45,e46,hr⟩:=zA hr
    refine sk<|an<|sq<|bl<|sq<|rg<|V (zAQ (t:=.i) (e:=x45) (undX 33 J) (szX 3 J) J J e46)<|V vlr<|V va<|nl<|an<|rg<|V vm<|V vm<|?_
    refine zAK (zB (kx:=x45) (vx:=true) (undX 89 J) kt3 (.inl J) J J J J J J J ?_)
    refine nl<|bn<|an<|rg<|V vad<|V vm<|?_
    obtain rfl:=Option.some.inj hr
    exact zAJ ((zAA hX [0,1,2,3] 4 J J wS wO))
   obtain rfl:=zA8 hc44 ho
   exact zAH (zAF (⟨rfl,(zAA hX [0,1,2,3] 4 J J wS wO)⟩))
  obtain rfl:=Option.some.inj hr
  exact zAv (zAS (⟨_,hk (some p31),(zAA hX [0,1,2,3] 4 J J wS wO)⟩))
 obtain rfl:=Option.some.inj hr
 exact zAH (zAF (⟨rfl,(zAA hX [0,1] 4 J J wS wO)⟩))
theorem f47_runs {p0:ZR}{p1:Int}{p2:Int}{r:Int×List Int}(hr:f47 p0 p1 p2=some r) : Runs Tryz.prog 47 [.rp (R80 p0),.i p1,.i p2] [] (fun q Hq=>q=[.osl 0,.i r.1]∧Hq=[.sl 3 .i r.2]):=by
 refine zAW Tryz.func47 Tryz.ntmps47 J (rs:=[.tmp 6,.tmp 7]) J J fun w0 X hX=>?_
 refine sq<|rg<|V va<|V va<|nl<|an<|sq<|sq<|?_
 refine zAa [0,1,2,6,7] [(true,.i p1),(true,.bool (decide (p1 < 0))),(true,.bool (decide (p1 < 0))),(!(decide (p1 < 0)),.i p2),(!(decide (p1 < 0)),.bool (decide (p2 < 0))),(true,.bool ((decide (p1 < 0))||(decide (p2 < 0))))] [[],[0],[1],[2],[3,2],[4,2]] [5] J J J J J ⟨oB wm,oB wls,oB wm,oB wm,oB wls,zBr,trivial⟩ (zAD ⟨rfl,trivial⟩) ?_
 refine an<|?_
 refine cnd (fun hc2 hr=>?_) (fun hc2 hr=>?_)
 ·refine sq<|rg<|V va<|V va<|?_
  obtain rfl:=Option.some.inj hr
  exact nl<|an<|cr<|zAC (zAe (l':=[(6,.osl 0),(7,.i 7)]) (Hs:=[(0,.sl 3 .i ([] : List Int))]) (n:=1) (Wk.trans (zAt (t:=6) 3 .i J) (zAA hX [0] 4 J J wS wO)) J J J ⟨rfl,rfl,trivial⟩)
 obtain ⟨x3,e4,hr⟩:=zA hr
 refine sk<|an<|sq<|sq<|rg<|V vm<|V vm<|?_
 refine V (zAV (f82_runs e4).x ent82 J J)<|V vno<|nl<|an<|?_
 refine cnd (fun hc5 hr=>?_) (fun hc5 hr=>?_)
 ·refine sq<|rg<|V va<|V va<|?_
  obtain rfl:=Option.some.inj hr
  exact nl<|an<|cr<|zAC (zAe (l':=[(6,.osl 0),(7,.i 8)]) (Hs:=[(0,.sl 3 .i ([] : List Int))]) (n:=1) (Wk.trans (zAt (t:=6) 3 .i J) (zAA hX [0] 4 J J wS wO)) J J J ⟨rfl,rfl,trivial⟩)
 refine sk<|an<|sq<|rg<|V vm<|?_
 refine zAK (zBq (t:=.i) (qs:=[(0,[.i p1])]) (ys:=[p1]) bs33 J J J J J J J J ?_)
 obtain ⟨s11,e13,hr⟩:=zA hr
 refine V va<|nl<|an<|sq<|sq<|rg<|V va<|nl<|an<|bl<|?_
 refine awc_loop (S:=Int×List Int) (R:=List Int) (fun p=>match p with | (s6,s7)=>(⟨[(0,.rp (R80 p0)),(2,.i p2),(6,.nils),(7,.i 0),(8,.osl 0),(9,.i s6)],[(0,.sl 3 .i s7)],1⟩ : AS)) (f47_b0 p0 p2) (fun r e st=>match r with | s11=>e=.exit 0∧Wk X st ⟨[(0,.rp (R80 p0)),(6,.nils),(7,.i 0),(8,.osl 0)],[(0,.sl 3 .i s11)],1⟩) e13 (by exact zAA hX [0] 4 J J wS wO) ?_ ?_
 ·intro e st hx
  obtain ⟨rfl,hw⟩:=hx
  obtain ⟨o19,e20,hr⟩:=zA hr
  refine bh<|an<|(zAY hw)<|sq<|rg<|V va<|nl<|an<|sq<|sq<|rg<|V vm<|V vnr<|V vfr<|V vlr<|V vnl<|V vm<|nl<|an<|bl<|?_
  refine zAb (t:=92) J (fun hl=>?_)
  refine zAI (List.length p0.2.1 : Int) (f47_b1 p0 s11) (fun p=>match p with | (i14,s16)=>(⟨[(6,.nils),(7,.i 0),(8,.osl 0),(18,.osl 1),(92,.sl Y4 p0.2.1),(93,.i (List.length p0.2.1 : Int)),(94,.i i14)],[(0,.sl 3 .i s11),(1,.sl 3 .i s16)],2⟩ : AS)) (fun o e st=>match o with | .inr _=>False | .inl s16=>e=.exit 8∧Wk X st ⟨[(6,.nils),(7,.i 0),(18,.osl 0)],[(0,.sl 3 .i s16)],1⟩) (zAf hl) e20 (Wk.trans (zAt (t:=18) 3 .i J) (by exact zAA hX [0,1] 4 J J wS wO)) ?_ ?_
  ·intro e st hx
   rcases o19 with s16 | _
   ·obtain ⟨rfl,hw⟩:=hx
    refine bh<|an<|(zAY hw)<|sq<|rg<|V vm<|V va<|V va<|?_
    obtain rfl:=Option.some.inj hr
    exact nl<|an<|cr<|zAe (l':=[(6,.osl 0),(7,.i 0)]) (Hs:=[(0,.sl 3 .i s16)]) (n:=1) (zAA hX [0] 4 J J wS wO) J J J ⟨rfl,rfl,trivial⟩
   exact hx.elim
  rintro i14 s16 o ho
  refine sq<|rg<|V vls<|nl<|an<|sq<|?_
  refine zAO (b:=decide (i14 < (List.length p0.2.1 : Int))) J (fun hc21=>?_) (fun hc21=>?_)
  ·obtain ⟨q,hr,rfl⟩:=zA7 hc21 ho
   obtain ⟨o23,e24,hr⟩:=zA hr
   refine sk<|an<|?_
   refine zAy (S:=List Int) (R:=Unit) (fun s=>match s with | s22=>(⟨[(6,.nils),(7,.i 0),(8,.osl 0),(18,.osl 1),(92,.sl Y4 p0.2.1),(93,.i (List.length p0.2.1 : Int)),(94,.i i14)],[(0,.sl 3 .i s11),(1,.sl 3 .i s22)],2⟩ : AS)) (fun _ _ _=>False) e24 (fun hr=>?_) ?_ ?_
   ·obtain ⟨x25,e26,hr⟩:=zA hr
    obtain ⟨x27,e28,hr⟩:=zA hr
    refine bl<|sq<|rg<|V (zAQ (t:=Y4) (e:=x25) (undX 52 J) (szX 54 J) J J e26)<|V vlR<|O oa<|O os<|nl<|an<|sq<|rg<|V vm<|V vfp<|V vlp<|?_
    refine V (zAj (as':=[.osl 0,.i x25.1]) (zBY e28).x zB9 J ⟨cv0,cv0,trivial⟩ J J)<|nl<|an<|?_
    refine cnd (fun hc29 hr=>?_) (fun hc29 hr=>?_)
    ·refine rg<|V vm<|V vfp<|V vlp<|?_
     refine V (zAM (t:=.i) (qs:=[(0,[.i x25.1])]) (ys:=[x25.1]) bs33 J J J J J J J J)<|?_
     obtain ⟨h30,hr⟩:=zAN hr
     refine zAK (zAh J J zCt J J J h30 J ?_)
     refine V va<|?_
     obtain rfl:=Option.some.inj hr
     exact zAJ (zAS ((zAA hX [0,3] 4 J J wS wO)))
    obtain rfl:=Option.some.inj hr
    exact zAv (zAS ((zAA hX [0,1] 4 J J wS wO)))
   ·rintro s22 rfl
    refine rg<|V vad<|V vm<|?_
    obtain rfl:=Option.some.inj hr
    exact zAJ ((zAA hX [0,1] 4 J J wS wO))
   exact fun r h e st hne hx=>hx.elim
  obtain rfl:=zA8 hc21 ho
  exact zAH (zAF (⟨rfl,(zAA hX [1] 4 J J wS wO)⟩))
 rintro ⟨s6,s7⟩ o hr
 refine sq<|sq<|rg<|V vm<|V vm<|V vm<|V vnr<|V vfr<|V vlr<|V vnl<|?_
 refine V (av_min J J J)<|V vls<|nl<|an<|?_
 refine cnd (fun hc31 hr=>?_) (fun hc31 hr=>?_)
 ·refine sk<|an<|sq<|bl<|sq<|rg<|V vm<|?_
  obtain ⟨h32,hr⟩:=zAN hr
  refine zAK (zCk (t:=.i) J J zCt J J J h32 J ?_)
  obtain ⟨o38,e39,hr⟩:=zA hr
  refine V va<|nl<|an<|sq<|rg<|V vm<|V vnr<|V vfr<|V vlr<|V vnl<|V vm<|nl<|an<|bl<|?_
  refine zAb (t:=49) J (fun hl=>?_)
  refine zAI (List.length p0.2.2.1 : Int) (f47_b2 p0 s7) (fun p=>match p with | (i33,s35)=>(⟨[(0,.rp (R80 p0)),(2,.i p2),(6,.nils),(7,.i 0),(8,.osl 0),(9,.i s6),(10,.osl 1),(49,.sl Y5 p0.2.2.1),(50,.i (List.length p0.2.2.1 : Int)),(51,.i i33)],[(0,.sl 3 .i s35),(1,.sl 3 .i s7)],2⟩ : AS)) (fun o e st=>match o with | .inr _=>False | .inl s35=>e=.exit 2∧Wk X st ⟨[(0,.rp (R80 p0)),(2,.i p2),(6,.nils),(7,.i 0),(8,.osl 0),(9,.i s6)],[(0,.sl 3 .i s35)],1⟩) (zAf hl) e39 (by exact zAA hX [0,1] 4 J J wS wO) ?_ ?_
  ·intro e st hx
   rcases o38 with s35 | _
   ·obtain ⟨rfl,hw⟩:=hx
    refine bh<|bn<|an<|(zAY hw)<|rg<|V vm<|V vad<|V va<|?_
    obtain rfl:=Option.some.inj hr
    exact zAJ ((zAA hX [0] 4 J J wS wO))
   exact hx.elim
  rintro i33 s35 o ho
  refine sq<|rg<|V vls<|nl<|an<|sq<|?_
  refine zAO (b:=decide (i33 < (List.length p0.2.2.1 : Int))) J (fun hc40=>?_) (fun hc40=>?_)
  ·obtain ⟨q,hr,rfl⟩:=zA7 hc40 ho
   obtain ⟨x41,e42,hr⟩:=zA hr
   obtain ⟨o48,e49,hr⟩:=zA hr
   refine sk<|an<|sq<|bl<|sq<|rg<|V (zAQ (t:=Y5) (e:=x41) (undX 78 J) (szX 42 J) J J e42)<|V vlR<|O oa<|O os<|nl<|an<|sq<|rg<|V va<|nl<|an<|sq<|sq<|rg<|V vfp<|V vlp<|V vnl<|V vm<|nl<|an<|bl<|?_
   refine zAb (t:=56) J (fun hl=>?_)
   refine zAI (List.length x41.2.2 : Int) (f47_b3 s7 x41) (fun p=>match p with | (i43,s44)=>(⟨[(0,.rp (R80 p0)),(2,.i p2),(6,.nils),(7,.i 0),(8,.osl 0),(9,.i s6),(10,.osl 1),(12,.ptr 2 0),(13,.bool s44),(49,.sl Y5 p0.2.2.1),(50,.i (List.length p0.2.2.1 : Int)),(51,.i i33),(56,.sl .i x41.2.2),(57,.i (List.length x41.2.2 : Int)),(58,.i i43)],[(0,.sl 3 .i s35),(1,.sl 3 .i s7),(2,.var 42 [.i x41.1,.str x41.2.1,.sl .i x41.2.2])],3⟩ : AS)) (fun o e st=>match o with | .inr _=>False | .inl s44=>e=.exit 4∧Wk X st ⟨[(0,.rp (R80 p0)),(2,.i p2),(6,.nils),(7,.i 0),(8,.osl 0),(9,.i s6),(10,.osl 1),(12,.ptr 2 0),(13,.bool s44),(49,.sl Y5 p0.2.2.1),(50,.i (List.length p0.2.2.1 : Int)),(51,.i i33)],[(0,.sl 3 .i s35),(1,.sl 3 .i s7),(2,.var 42 [.i x41.1,.str x41.2.1,.sl .i x41.2.2])],3⟩) (zAf hl) e49 (by exact zAA hX [0,1,2] 4 J J wS wO) ?_ ?_
   ·intro e st hx
    rcases o48 with s44 | _
    ·obtain ⟨rfl,hw⟩:=hx
     obtain ⟨o55,e56,hr⟩:=zA hr
     refine bh<|an<|(zAY hw)<|sq<|rg<|V vfp<|V vlp<|V vnl<|V vm<|nl<|an<|bl<|?_
     refine zAb (t:=70) J (fun hl=>?_)
     refine zAI (List.length x41.2.2 : Int) (f47_b4 x41 s44) (fun p=>match p with | (i50,s52)=>(⟨[(0,.rp (R80 p0)),(2,.i p2),(6,.nils),(7,.i 0),(8,.osl 0),(9,.i s6),(10,.osl 1),(13,.bool s44),(49,.sl Y5 p0.2.2.1),(50,.i (List.length p0.2.2.1 : Int)),(51,.i i33),(70,.sl .i x41.2.2),(71,.i (List.length x41.2.2 : Int)),(72,.i i50)],[(0,.sl 3 .i s52),(1,.sl 3 .i s7)],2⟩ : AS)) (fun o e st=>match o with | .inr _=>False | .inl s52=>e=.exit 6∧Wk X st ⟨[(0,.rp (R80 p0)),(2,.i p2),(6,.nils),(7,.i 0),(8,.osl 0),(9,.i s6),(10,.osl 1),(49,.sl Y5 p0.2.2.1),(50,.i (List.length p0.2.2.1 : Int)),(51,.i i33)],[(0,.sl 3 .i s52),(1,.sl 3 .i s7)],2⟩) (zAf hl) e56 (by exact zAA hX [0,1] 4 J J wS wO) ?_ ?_
     ·intro e st hx
      rcases o55 with s52 | _
      ·obtain ⟨rfl,hw⟩:=hx
       refine bh<|bn<|an<|(zAY hw)<|rg<|V vad<|V vm<|?_
       obtain rfl:=Option.some.inj hr
       exact zAJ ((zAA hX [0,1] 4 J J wS wO))
      exact hx.elim
     rintro i50 s52 o ho
     refine sq<|rg<|V vls<|nl<|an<|sq<|?_
     refine zAO (b:=decide (i50 < (List.length x41.2.2 : Int))) J (fun hc57=>?_) (fun hc57=>?_)
     ·obtain ⟨q,hr,rfl⟩:=zA7 hc57 ho
      obtain ⟨o59,e60,hr⟩:=zA hr
      refine sk<|an<|?_
      refine zAy (S:=List Int) (R:=Unit) (fun s=>match s with | s58=>(⟨[(0,.rp (R80 p0)),(2,.i p2),(6,.nils),(7,.i 0),(8,.osl 0),(9,.i s6),(10,.osl 1),(13,.bool s44),(49,.sl Y5 p0.2.2.1),(50,.i (List.length p0.2.2.1 : Int)),(51,.i i33),(70,.sl .i x41.2.2),(71,.i (List.length x41.2.2 : Int)),(72,.i i50)],[(0,.sl 3 .i s58),(1,.sl 3 .i s7)],2⟩ : AS)) (fun _ _ _=>False) e60 (fun hr=>?_) ?_ ?_
      ·obtain ⟨x61,e62,hr⟩:=zA hr
       refine bl<|sq<|rg<|V (zAQ (t:=.i) (e:=x61) (undX 33 J) (szX 3 J) J J e62)<|V vlr<|V va<|nl<|an<|sq<|?_
       obtain ⟨h63,hr⟩:=zAN hr
       refine zAa [0,2,6,7,8,9,10,13,49,50,51,70,71,72,17] [(true,.bool s44),(true,.bool s44),(s44,.osl 0),(s44,.i x61),(s44,.bool ((f15 s52 x61).getD default)),(s44,.bool (!((f15 s52 x61).getD default))),(true,.bool (s44&&(!((f15 s52 x61).getD default))))] [[],[0],[1],[1],[2,3,1],[4,1],[5,1]] [6] J J J J J ⟨oB wm,oB wm,oB wm,oB wm,zAr ⟨rfl,rfl,rfl,_,rfl,rfl⟩ (fun hg=>zAD ⟨hg,hg,rfl,trivial⟩) (fun hg=>zAj (as':=[.osl 0,.i x61]) (zBY (zAz h63 hg)).x zB9 J ⟨cv0,cv0,trivial⟩ J J),oB wno,zBe,trivial⟩ (zAD ⟨rfl,trivial⟩) ?_
       refine an<|?_
       refine cnd (fun hc64 hr=>?_) (fun hc64 hr=>?_)
       ·refine rg<|V vm<|V vm<|?_
        refine V (zAM (t:=.i) (qs:=[(0,[.i x61])]) (ys:=[x61]) bs33 J J J J J J J J)<|?_
        obtain ⟨h65,hr⟩:=zAN hr
        refine zAK (zAh J J zCt J J J h65 J ?_)
        refine V va<|?_
        obtain rfl:=Option.some.inj hr
        exact zAJ (zAS ((zAA hX [2,1] 4 J J wS wO)))
       obtain rfl:=Option.some.inj hr
       exact zAv (zAS ((zAA hX [0,1] 4 J J wS wO)))
      ·rintro s58 rfl
       refine rg<|V vad<|V vm<|?_
       obtain rfl:=Option.some.inj hr
       exact zAJ ((zAA hX [0,1] 4 J J wS wO))
      exact fun r h e st hne hx=>hx.elim
     obtain rfl:=zA8 hc57 ho
     exact zAH (zAF (⟨rfl,(zAA hX [0,1] 4 J J wS wO)⟩))
    exact hx.elim
   rintro i43 s44 o ho
   refine sq<|rg<|V vls<|nl<|an<|sq<|?_
   refine zAO (b:=decide (i43 < (List.length x41.2.2 : Int))) J (fun hc66=>?_) (fun hc66=>?_)
   ·obtain ⟨q,hr,rfl⟩:=zA7 hc66 ho
    obtain ⟨x67,e68,hr⟩:=zA hr
    refine sk<|an<|sq<|bl<|sq<|rg<|V (zAQ (t:=.i) (e:=x67) (undX 33 J) (szX 3 J) J J e68)<|V vlr<|V va<|nl<|an<|?_
    obtain ⟨h69,hr⟩:=zAN hr
    refine zBy 6 [0,2,6,7,8,9,10,12,13,49,50,51,56,57,58,15] [(true,.bool s44),(true,.bool s44),(!s44,.osl 1),(!s44,.i x67),(!s44,.bool ((f15 s7 x67).getD default)),(true,.bool (s44||((f15 s7 x67).getD default)))] [[],[0],[1],[1],[2,3,1],[4,1]] [5] J J J J J J ⟨oB wm,oB wm,oB wm,oB wm,zAr ⟨rfl,rfl,rfl,_,rfl,rfl⟩ (fun hg=>zAD ⟨hg,hg,rfl,trivial⟩) (fun hg=>zAj (as':=[.osl 1,.i x67]) (zBY (zAz h69 hg)).x zB9 J ⟨cv0,cv0,trivial⟩ J J),zBr,trivial⟩ (zAD ⟨rfl,trivial⟩) ?_
    refine V va<|nl<|bn<|an<|rg<|V vad<|V vm<|?_
    obtain rfl:=Option.some.inj hr
    exact zAJ ((zAA hX [0,1,2] 4 J J wS wO))
   obtain rfl:=zA8 hc66 ho
   exact zAH (zAF (⟨rfl,(zAA hX [0,1,2] 4 J J wS wO)⟩))
  obtain rfl:=zA8 hc40 ho
  exact zAH (zAF (⟨rfl,(zAA hX [0] 4 J J wS wO)⟩))
 obtain rfl:=Option.some.inj hr
 exact zAH (zAF (⟨rfl,(zAA hX [0] 4 J J wS wO)⟩))
theorem f48_runs {p0_0:ZR}{p1:Int}{p2:Str}{r:Int×Int×(ZR)}(hr:f48 p0_0 p1 p2=some r) : Runs Tryz.prog 48 [.ptr 0 0,.i p1,.str p2] [.tr E80 (some p0_0)] (fun q Hq=>q=[.i r.1,.i r.2.1]∧Hq=[.tr E80 (some r.2.2)]):=by
 refine zAW Tryz.func48 Tryz.ntmps48 J (rs:=[.tmp 6,.tmp 7]) J J fun w0 X hX=>?_
 refine sq<|rg<|V va<|V va<|nl<|an<|sq<|bl<|sq<|rg<|V vm<|V vnt<|V vgt<|V va<|nl<|an<|?_
 refine cnd (fun hc2 hr=>?_) (fun hc2 hr=>?_)
 ·refine sq<|rg<|V va<|V va<|?_
  obtain rfl:=Option.some.inj hr
  exact nl<|an<|cr<|zAE (zAC (zAe (l':=[(6,.i 0),(7,.i 1)]) (Hs:=[(0,.tr E80 (some p0_0))]) (n:=1) (zAA hX [0] 4 J J wS wO) J J J ⟨rfl,rfl,trivial⟩))
 obtain ⟨x3,e4,hr⟩:=zA hr
 refine sq<|rg<|V vm<|?_
 refine V (zAV (f91_runs e4).x ent91 J J)<|V vno<|V va<|nl<|an<|?_
 refine cnd (fun hc5 hr=>?_) (fun hc5 hr=>?_)
 ·refine sq<|rg<|V va<|V va<|?_
  obtain rfl:=Option.some.inj hr
  exact nl<|an<|cr<|zAE (zAC (zAe (l':=[(6,.i 0),(7,.i 7)]) (Hs:=[(0,.tr E80 (some p0_0))]) (n:=1) (zAA hX [0] 4 J J wS wO) J J J ⟨rfl,rfl,trivial⟩))
 refine sq<|rg<|V vm<|V vnp<|V vfp<|?_
 refine zAG (zAd (i:=0) [.sl Y2 p0_0.1,.osl 1,.osl 2,.i p0_0.2.2.2.1,.i p0_0.2.2.2.2] [.sl 54 Y4 p0_0.2.1,.sl 42 Y5 p0_0.2.2.1] J J J J)<|V vlp<|V vnL<|V vge<|V va<|nl<|an<|?_
 refine cnd (fun hc6 hr=>?_) (fun hc6 hr=>?_)
 ·refine sq<|rg<|V va<|V va<|?_
  obtain rfl:=Option.some.inj hr
  exact nl<|an<|cr<|zAE (zAC (zAe (l':=[(6,.i 0),(7,.i 4)]) (Hs:=[(0,.tr E80 (some p0_0))]) (n:=1) (Wk.trans (pk (i:=0) (e:=F80) (js:=[1,2]) p0_0) (zAA hX [0] 4 J J wS wO)) J J J ⟨rfl,rfl,trivial⟩))
 refine sk<|bn<|an<|sq<|?_
 obtain ⟨h7,hr⟩:=zAN hr
 refine zCV (st2:=⟨[(0,.ptr 0 0),(6,.i 0),(7,.i 0),(36,.osl 3)],[(0,.var 80 [.sl Y2 p0_0.1,.osl 1,.osl 2,.i p0_0.2.2.2.1,.i p0_0.2.2.2.2]),(1,.dead),(2,.sl 42 Y5 p0_0.2.2.1),(3,.sl 54 Y4 (p0_0.2.1++[(p0_0.2.2.2.1,p1,p2)]))],4⟩) 13 [0] [0,2,3,4,13,6,7,8,11,11,11,12,13] [[],[],[],[],[],[],[],[],[],[],[],[],[]] mixed [0,1,2,6,7] [(true,.ptr 0 0),(true,.ptr 0 0),(true,.ptr 0 0),(true,.ptr 0 1),(true,.osl 1),(true,.ptr 0 0),(true,.ptr 0 0),(true,.ptr 0 3),(true,.i p0_0.2.2.2.1),(true,.i p1),(true,.str p2),(true,.agg [.i p0_0.2.2.2.1,.i p1,.str p2]),(true,.sl Y4 [(p0_0.2.2.2.1,p1,p2)])] [[],[],[1],[2],[3],[],[5],[6],[7],[],[],[8,9,10],[11]] [4,12] [0,6,7,36] rfl rfl rfl rfl rfl rfl rfl rfl rfl rfl rfl rfl ⟨oB wm,oB wm,oB wnp,oB wfp,oB wlp,oB wm,oB wnp,oB wfp,oB wlp,oB wm,oB wm,zAr rfl (fun hg=>zAD ⟨rfl,rfl,rfl,trivial⟩) (fun hg=>zAs (qs:=[(0,[.i p0_0.2.2.2.1]),(1,[.i p1]),(2,[.str p2])]) (cs:=[.i p0_0.2.2.2.1,.i p1,.str p2]) bt54 rfl rfl rfl),zAr rfl (fun hg=>zAD ⟨rfl,trivial⟩) (fun hg=>zAM (t:=Y4) (qs:=[(0,[.i p0_0.2.2.2.1,.i p1,.str p2])]) (ys:=[(p0_0.2.2.2.1,p1,p2)]) bs52 rfl rfl rfl rfl rfl rfl rfl rfl),trivial⟩ (zAD ⟨rfl,rfl,trivial⟩) rfl ⟨(fun X' o ho=>by obtain rfl:=Option.some.inj ho; exact zAg rfl),trivial⟩ rfl (fun X'=>zAh rfl rfl app52 rfl rfl rfl h7 rfl ⟨⟨rfl,rfl,rfl,rfl,trivial⟩,⟨rfl,rfl,rfl,rfl,trivial⟩,rfl⟩) ?_
 refine V vnp<|V vfp<|O os<|nl<|an<|sq<|rg<|V vm<|V vnp<|V vfp<|V vlp<|V vad<|V vnp<|V vfp<|O os<|nl<|an<|sq<|rg<|V vm<|V vnp<|V vfp<|V vlp<|V vsu<|V va<|V va<|?_
 obtain rfl:=Option.some.inj hr
 exact nl<|an<|cr<|zAe (l':=[(6,.i (w64 ((w64 (p0_0.2.2.2.1+1)) - 1))),(7,.i 0)]) (Hs:=[(0,.tr E80 (some (p0_0.1,(p0_0.2.1++[(p0_0.2.2.2.1,p1,p2)]),p0_0.2.2.1,(w64 (p0_0.2.2.2.1+1)),p0_0.2.2.2.2)))]) (n:=1) (Wk.trans (pk (i:=0) (e:=F80) (js:=[3,2]) (p0_0.1,(p0_0.2.1++[(p0_0.2.2.2.1,p1,p2)]),p0_0.2.2.1,(w64 (p0_0.2.2.2.1+1)),p0_0.2.2.2.2)) (zAA hX [0] 4 J J wS wO)) J J J ⟨rfl,rfl,trivial⟩
theorem f11_runs {p0_0:ZW}{p1_0:ZR}{p2:ZA}{r:Bool×(ZW)×(ZR)}(hr:f11 p0_0 p1_0 p2=some r) : Runs Tryz.prog 11 [.ptr 0 0,.ptr 1 0,.agg (A35 p2)] [.tr E76 (some p0_0),.tr E80 (some p1_0)] (fun q Hq=>q=[.bool r.1]∧Hq=[.tr E76 (some r.2.1),.tr E80 (some r.2.2)]):=by
 refine zAW Tryz.func11 Tryz.ntmps11 J (rs:=[.tmp 6]) J J fun w0 X hX=>?_
 obtain ⟨o4,e5,hr⟩:=zA hr
 refine sq<|rg<|O ob<|V va<|nl<|an<|sq<|sq<|rg<|V vfp<|V vlp<|nl<|an<|bl<|?_
 refine zAy (S:=Bool) (R:=Unit) (fun s=>match s with | s3=>(⟨[(0,.ptr 0 0),(1,.ptr 1 0),(5,.ptr 2 0),(6,.bool false),(60,.i p2.1),(61,.bool s3)],[(0,.tr E76 (some p0_0)),(1,.tr E80 (some p1_0)),(2,.var 35 (A35 p2))],3⟩ : AS)) (fun _ _ _=>False) e5 (fun hr=>?_) ?_ ?_
 ·refine sq<|rg<|V veq<|V va<|nl<|an<|?_
  refine cnd (fun hc6 hr=>?_) (fun hc6 hr=>?_)
  ·obtain rfl:=Option.some.inj hr
   exact zAv ((zAA hX [0,1,2] 4 J J wS wO))
  refine sq<|rg<|V veq<|V va<|nl<|an<|?_
  refine cnd (fun hc7 hr=>?_) (fun hc7 hr=>?_)
  ·obtain rfl:=Option.some.inj hr
   exact zAv ((zAA hX [0,1,2] 4 J J wS wO))
  refine sq<|rg<|V veq<|V va<|nl<|an<|?_
  refine cnd (fun hc8 hr=>?_) (fun hc8 hr=>?_)
  ·obtain rfl:=Option.some.inj hr
   exact zAv ((zAA hX [0,1,2] 4 J J wS wO))
  refine sq<|rg<|V veq<|V va<|nl<|an<|?_
  refine cnd (fun hc9 hr=>?_) (fun hc9 hr=>?_)
  ·obtain rfl:=Option.some.inj hr
   exact zAv ((zAA hX [0,1,2] 4 J J wS wO))
  refine rg<|V veq<|V va<|?_
  obtain rfl:=Option.some.inj hr
  exact zAJ ((zAA hX [0,1,2] 4 J J wS wO))
 ·rintro s3 rfl
  refine cnd (fun hc10 hr=>?_) (fun hc10 hr=>?_)
  ·obtain ⟨x11,e12,hr⟩:=zA hr
   refine sq<|rg<|V vm<|V vfp<|V vlp<|V vfp<|V vlp<|?_
   refine zAK (zAP (σ:=[0]) (as':=[.ptr 0 0,.str p2.2.2.2.2.2.1,.sl .i p2.2.2.2.2.2.2.2.2]) (f24_runs e12).x ent24 J ⟨cv0,cv0,cv0,trivial⟩ J J J ?_)
   obtain ⟨x13,e14,hr⟩:=zA hr
   refine V vm<|V vx<|V vx<|V va<|V va<|nl<|an<|sq<|rg<|V vm<|V vfp<|V vlp<|V vfp<|V vlp<|?_
   refine zAK (zAP (σ:=[1]) (as':=[.ptr 1 0,.str p2.2.2.2.2.2.1,.sl .i p2.2.2.2.2.2.2.2.2]) (f32_runs e14).x ent32 J ⟨cv0,cv0,cv0,trivial⟩ J J J ?_)
   refine V vm<|V vx<|V vx<|V va<|V va<|nl<|an<|sq<|?_
   refine zAa [0,1,5,7,8,9,10] [(true,.i x11.1),(true,.i x13.1),(true,.bool (decide (x11.1=x13.1))),(true,.bool (decide (x11.1=x13.1))),(decide (x11.1=x13.1),.i x11.2.1),(decide (x11.1=x13.1),.i x13.2.1),(decide (x11.1=x13.1),.bool (decide (x11.2.1=x13.2.1))),(true,.bool ((decide (x11.1=x13.1))&&(decide (x11.2.1=x13.2.1)))),(true,.bool ((decide (x11.1=x13.1))&&(decide (x11.2.1=x13.2.1))))] [[],[],[0,1],[2],[3],[3],[4,5,3],[6,3],[7]] [8] J J J J J ⟨oB wm,oB wm,oB weq,oB wm,oB wm,oB wm,oB weq,zBe,oB wa,trivial⟩ (zAD ⟨rfl,trivial⟩) ?_
   obtain rfl:=Option.some.inj hr
   exact zAZ (zAw (zAE (zAC (zAe (l':=[(6,.bool ((decide (x11.1=x13.1))&&(decide (x11.2.1=x13.2.1))))]) (Hs:=[(0,.tr E76 (some x11.2.2)),(1,.tr E80 (some x13.2.2))]) (n:=2) (zAA hX [0,1] 4 J J wS wO) J J J ⟨rfl,trivial⟩))))
  refine sq<|rg<|V veq<|V va<|nl<|an<|?_
  refine cnd (fun hc15 hr=>?_) (fun hc15 hr=>?_)
  ·obtain ⟨x16,e17,hr⟩:=zA hr
   obtain ⟨x18,e19,hr⟩:=zA hr
   refine sq<|?_
   refine awc_drawS mixed (([false,false,false,false,false,false,false,false,false,false],⟨[(0,.ptr 0 0),(1,.ptr 1 0),(5,.ptr 2 0),(6,.bool false)],[(0,.tr E76 (some p0_0)),(1,.tr E80 (some p1_0)),(2,.var 35 (A35 p2))],3⟩,[0,1,4,5])::([true,false,false,false,false,false,false,false,false,false],⟨[(0,.ptr 0 0),(1,.ptr 1 0),(5,.ptr 2 0),(6,.bool false),(95,.ptr 0 0)],[(0,.tr E76 (some p0_0)),(1,.tr E80 (some p1_0)),(2,.var 35 (A35 p2))],3⟩,[1,4,5])::([false,true,false,false,false,false,false,false,false,false],⟨[(0,.ptr 0 0),(1,.ptr 1 0),(5,.ptr 2 0),(6,.bool false),(96,.ptr 2 1)],[(0,.tr E76 (some p0_0)),(1,.tr E80 (some p1_0)),(2,.var 35 (A35 p2))],3⟩,[0,2,4,5])::([false,false,false,false,true,false,false,false,false,false],⟨[(0,.ptr 0 0),(1,.ptr 1 0),(5,.ptr 2 0),(6,.bool false),(99,.ptr 1 0)],[(0,.tr E76 (some p0_0)),(1,.tr E80 (some p1_0)),(2,.var 35 (A35 p2))],3⟩,[0,1,5])::([false,false,false,false,false,true,false,false,false,false],⟨[(0,.ptr 0 0),(1,.ptr 1 0),(5,.ptr 2 0),(6,.bool false),(100,.ptr 2 1)],[(0,.tr E76 (some p0_0)),(1,.tr E80 (some p1_0)),(2,.var 35 (A35 p2))],3⟩,[0,1,4,6])::([true,true,false,false,false,false,false,false,false,false],⟨[(0,.ptr 0 0),(1,.ptr 1 0),(5,.ptr 2 0),(6,.bool false),(95,.ptr 0 0),(96,.ptr 2 1)],[(0,.tr E76 (some p0_0)),(1,.tr E80 (some p1_0)),(2,.var 35 (A35 p2))],3⟩,[2,4,5])::([true,false,false,false,true,false,false,false,false,false],⟨[(0,.ptr 0 0),(1,.ptr 1 0),(5,.ptr 2 0),(6,.bool false),(95,.ptr 0 0),(99,.ptr 1 0)],[(0,.tr E76 (some p0_0)),(1,.tr E80 (some p1_0)),(2,.var 35 (A35 p2))],3⟩,[1,5])::([true,false,false,false,false,true,false,false,false,false],⟨[(0,.ptr 0 0),(1,.ptr 1 0),(5,.ptr 2 0),(6,.bool false),(95,.ptr 0 0),(100,.ptr 2 1)],[(0,.tr E76 (some p0_0)),(1,.tr E80 (some p1_0)),(2,.var 35 (A35 p2))],3⟩,[1,4,6])::([false,true,true,false,false,false,false,false,false,false],⟨[(0,.ptr 0 0),(1,.ptr 1 0),(5,.ptr 2 0),(6,.bool false),(96,.ptr 2 1),(97,.i p2.2.1)],[(0,.tr E76 (some p0_0)),(1,.tr E80 (some p1_0)),(2,.var 35 (A35 p2))],3⟩,[0,4,5])::([false,true,false,false,true,false,false,false,false,false],⟨[(0,.ptr 0 0),(1,.ptr 1 0),(5,.ptr 2 0),(6,.bool false),(96,.ptr 2 1),(99,.ptr 1 0)],[(0,.tr E76 (some p0_0)),(1,.tr E80 (some p1_0)),(2,.var 35 (A35 p2))],3⟩,[0,2,5])::([false,true,false,false,false,true,false,false,false,false],⟨[(0,.ptr 0 0),(1,.ptr 1 0),(5,.ptr 2 0),(6,.bool false),(96,.ptr 2 1),(100,.ptr 2 1)],[(0,.tr E76 (some p0_0)),(1,.tr E80 (some p1_0)),(2,.var 35 (A35 p2))],3⟩,[0,2,4,6])::([false,false,false,false,true,true,false,false,false,false],⟨[(0,.ptr 0 0),(1,.ptr 1 0),(5,.ptr 2 0),(6,.bool false),(99,.ptr 1 0),(100,.ptr 2 1)],[(0,.tr E76 (some p0_0)),(1,.tr E80 (some p1_0)),(2,.var 35 (A35 p2))],3⟩,[0,1,6])::([false,false,false,false,false,true,true,false,false,false],⟨[(0,.ptr 0 0),(1,.ptr 1 0),(5,.ptr 2 0),(6,.bool false),(100,.ptr 2 1),(101,.i p2.2.1)],[(0,.tr E76 (some p0_0)),(1,.tr E80 (some p1_0)),(2,.var 35 (A35 p2))],3⟩,[0,1,4])::([true,true,true,false,false,false,false,false,false,false],⟨[(0,.ptr 0 0),(1,.ptr 1 0),(5,.ptr 2 0),(6,.bool false),(95,.ptr 0 0),(96,.ptr 2 1),(97,.i p2.2.1)],[(0,.tr E76 (some p0_0)),(1,.tr E80 (some p1_0)),(2,.var 35 (A35 p2))],3⟩,[3,4,5])::([true,true,false,false,true,false,false,false,false,false],⟨[(0,.ptr 0 0),(1,.ptr 1 0),(5,.ptr 2 0),(6,.bool false),(95,.ptr 0 0),(96,.ptr 2 1),(99,.ptr 1 0)],[(0,.tr E76 (some p0_0)),(1,.tr E80 (some p1_0)),(2,.var 35 (A35 p2))],3⟩,[2,5])::([true,true,false,false,false,true,false,false,false,false],⟨[(0,.ptr 0 0),(1,.ptr 1 0),(5,.ptr 2 0),(6,.bool false),(95,.ptr 0 0),(96,.ptr 2 1),(100,.ptr 2 1)],[(0,.tr E76 (some p0_0)),(1,.tr E80 (some p1_0)),(2,.var 35 (A35 p2))],3⟩,[2,4,6])::([true,false,false,false,true,true,false,false,false,false],⟨[(0,.ptr 0 0),(1,.ptr 1 0),(5,.ptr 2 0),(6,.bool false),(95,.ptr 0 0),(99,.ptr 1 0),(100,.ptr 2 1)],[(0,.tr E76 (some p0_0)),(1,.tr E80 (some p1_0)),(2,.var 35 (A35 p2))],3⟩,[1,6])::([true,false,false,false,false,true,true,false,false,false],⟨[(0,.ptr 0 0),(1,.ptr 1 0),(5,.ptr 2 0),(6,.bool false),(95,.ptr 0 0),(100,.ptr 2 1),(101,.i p2.2.1)],[(0,.tr E76 (some p0_0)),(1,.tr E80 (some p1_0)),(2,.var 35 (A35 p2))],3⟩,[1,4])::([false,true,true,false,true,false,false,false,false,false],⟨[(0,.ptr 0 0),(1,.ptr 1 0),(5,.ptr 2 0),(6,.bool false),(96,.ptr 2 1),(97,.i p2.2.1),(99,.ptr 1 0)],[(0,.tr E76 (some p0_0)),(1,.tr E80 (some p1_0)),(2,.var 35 (A35 p2))],3⟩,[0,5])::([false,true,true,false,false,true,false,false,false,false],⟨[(0,.ptr 0 0),(1,.ptr 1 0),(5,.ptr 2 0),(6,.bool false),(96,.ptr 2 1),(97,.i p2.2.1),(100,.ptr 2 1)],[(0,.tr E76 (some p0_0)),(1,.tr E80 (some p1_0)),(2,.var 35 (A35 p2))],3⟩,[0,4,6])::([false,true,false,false,true,true,false,false,false,false],⟨[(0,.ptr 0 0),(1,.ptr 1 0),(5,.ptr 2 0),(6,.bool false),(96,.ptr 2 1),(99,.ptr 1 0),(100,.ptr 2 1)],[(0,.tr E76 (some p0_0)),(1,.tr E80 (some p1_0)),(2,.var 35 (A35 p2))],3⟩,[0,2,6])::([false,true,false,false,false,true,true,false,false,false],⟨[(0,.ptr 0 0),(1,.ptr 1 0),(5,.ptr 2 0),(6,.bool false),(96,.ptr 2 1),(100,.ptr 2 1),(101,.i p2.2.1)],[(0,.tr E76 (some p0_0)),(1,.tr E80 (some p1_0)),(2,.var 35 (A35 p2))],3⟩,[0,2,4])::([false,false,false,false,true,true,true,false,false,false],⟨[(0,.ptr 0 0),(1,.ptr 1 0),(5,.ptr 2 0),(6,.bool false),(99,.ptr 1 0),(100,.ptr 2 1),(101,.i p2.2.1)],[(0,.tr E76 (some p0_0)),(1,.tr E80 (some p1_0)),(2,.var 35 (A35 p2))],3⟩,[0,1])::([true,true,true,true,false,false,false,false,false,false],⟨[(0,.ptr 0 0),(1,.ptr 1 0),(5,.ptr 2 0),(6,.bool false),(95,.ptr 0 0),(96,.ptr 2 1),(97,.i p2.2.1),(98,.i x16.1)],[(0,.tr E76 (some x16.2)),(1,.tr E80 (some p1_0)),(2,.var 35 (A35 p2))],3⟩,[4,5])::([true,true,true,false,true,false,false,false,false,false],⟨[(0,.ptr 0 0),(1,.ptr 1 0),(5,.ptr 2 0),(6,.bool false),(95,.ptr 0 0),(96,.ptr 2 1),(97,.i p2.2.1),(99,.ptr 1 0)],[(0,.tr E76 (some p0_0)),(1,.tr E80 (some p1_0)),(2,.var 35 (A35 p2))],3⟩,[3,5])::([true,true,true,false,false,true,false,false,false,false],⟨[(0,.ptr 0 0),(1,.ptr 1 0),(5,.ptr 2 0),(6,.bool false),(95,.ptr 0 0),(96,.ptr 2 1),(97,.i p2.2.1),(100,.ptr 2 1)],[(0,.tr E76 (some p0_0)),(1,.tr E80 (some p1_0)),(2,.var 35 (A35 p2))],3⟩,[3,4,6])::([true,true,false,false,true,true,false,false,false,false],⟨[(0,.ptr 0 0),(1,.ptr 1 0),(5,.ptr 2 0),(6,.bool false),(95,.ptr 0 0),(96,.ptr 2 1),(99,.ptr 1 0),(100,.ptr 2 1)],[(0,.tr E76 (some p0_0)),(1,.tr E80 (some p1_0)),(2,.var 35 (A35 p2))],3⟩,[2,6])::([true,true,false,false,false,true,true,false,false,false],⟨[(0,.ptr 0 0),(1,.ptr 1 0),(5,.ptr 2 0),(6,.bool false),(95,.ptr 0 0),(96,.ptr 2 1),(100,.ptr 2 1),(101,.i p2.2.1)],[(0,.tr E76 (some p0_0)),(1,.tr E80 (some p1_0)),(2,.var 35 (A35 p2))],3⟩,[2,4])::([true,false,false,false,true,true,true,false,false,false],⟨[(0,.ptr 0 0),(1,.ptr 1 0),(5,.ptr 2 0),(6,.bool false),(95,.ptr 0 0),(99,.ptr 1 0),(100,.ptr 2 1),(101,.i p2.2.1)],[(0,.tr E76 (some p0_0)),(1,.tr E80 (some p1_0)),(2,.var 35 (A35 p2))],3⟩,[1])::([false,true,true,false,true,true,false,false,false,false],⟨[(0,.ptr 0 0),(1,.ptr 1 0),(5,.ptr 2 0),(6,.bool false),(96,.ptr 2 1),(97,.i p2.2.1),(99,.ptr 1 0),(100,.ptr 2 1)],[(0,.tr E76 (some p0_0)),(1,.tr E80 (some p1_0)),(2,.var 35 (A35 p2))],3⟩,[0,6])::([false,true,true,false,false,true,true,false,false,false],⟨[(0,.ptr 0 0),(1,.ptr 1 0),(5,.ptr 2 0),(6,.bool false),(96,.ptr 2 1),(97,.i p2.2.1),(100,.ptr 2 1),(101,.i p2.2.1)],[(0,.tr E76 (some p0_0)),(1,.tr E80 (some p1_0)),(2,.var 35 (A35 p2))],3⟩,[0,4])::([false,true,false,false,true,true,true,false,false,false],⟨[(0,.ptr 0 0),(1,.ptr 1 0),(5,.ptr 2 0),(6,.bool false),(96,.ptr 2 1),(99,.ptr 1 0),(100,.ptr 2 1),(101,.i p2.2.1)],[(0,.tr E76 (some p0_0)),(1,.tr E80 (some p1_0)),(2,.var 35 (A35 p2))],3⟩,[0,2])::([true,true,true,true,true,false,false,false,false,false],⟨[(0,.ptr 0 0),(1,.ptr 1 0),(5,.ptr 2 0),(6,.bool false),(95,.ptr 0 0),(96,.ptr 2 1),(97,.i p2.2.1),(98,.i x16.1),(99,.ptr 1 0)],[(0,.tr E76 (some x16.2)),(1,.tr E80 (some p1_0)),(2,.var 35 (A35 p2))],3⟩,[5])::([true,true,true,true,false,true,false,false,false,false],⟨[(0,.ptr 0 0),(1,.ptr 1 0),(5,.ptr 2 0),(6,.bool false),(95,.ptr 0 0),(96,.ptr 2 1),(97,.i p2.2.1),(98,.i x16.1),(100,.ptr 2 1)],[(0,.tr E76 (some x16.2)),(1,.tr E80 (some p1_0)),(2,.var 35 (A35 p2))],3⟩,[4,6])::([true,true,true,false,true,true,false,false,false,false],⟨[(0,.ptr 0 0),(1,.ptr 1 0),(5,.ptr 2 0),(6,.bool false),(95,.ptr 0 0),(96,.ptr 2 1),(97,.i p2.2.1),(99,.ptr 1 0),(100,.ptr 2 1)],[(0,.tr E76 (some p0_0)),(1,.tr E80 (some p1_0)),(2,.var 35 (A35 p2))],3⟩,[3,6])::([true,true,true,false,false,true,true,false,false,false],⟨[(0,.ptr 0 0),(1,.ptr 1 0),(5,.ptr 2 0),(6,.bool false),(95,.ptr 0 0),(96,.ptr 2 1),(97,.i p2.2.1),(100,.ptr 2 1),(101,.i p2.2.1)],[(0,.tr E76 (some p0_0)),(1,.tr E80 (some p1_0)),(2,.var 35 (A35 p2))],3⟩,[3,4])::([true,true,false,false,true,true,true,false,false,false],⟨[(0,.ptr 0 0),(1,.ptr 1 0),(5,.ptr 2 0),(6,.bool false),(95,.ptr 0 0),(96,.ptr 2 1),(99,.ptr 1 0),(100,.ptr 2 1),(101,.i p2.2.1)],[(0,.tr E76 (some p0_0)),(1,.tr E80 (some p1_0)),(2,.var 35 (A35 p2))],3⟩,[2])::([false,true,true,false,true,true,true,false,false,false],⟨[(0,.ptr 0 0),(1,.ptr 1 0),(5,.ptr 2 0),(6,.bool false),(96,.ptr 2 1),(97,.i p2.2.1),(99,.ptr 1 0),(100,.ptr 2 1),(101,.i p2.2.1)],[(0,.tr E76 (some p0_0)),(1,.tr E80 (some p1_0)),(2,.var 35 (A35 p2))],3⟩,[0])::([true,true,true,true,true,true,false,false,false,false],⟨[(0,.ptr 0 0),(1,.ptr 1 0),(5,.ptr 2 0),(6,.bool false),(95,.ptr 0 0),(96,.ptr 2 1),(97,.i p2.2.1),(98,.i x16.1),(99,.ptr 1 0),(100,.ptr 2 1)],[(0,.tr E76 (some x16.2)),(1,.tr E80 (some p1_0)),(2,.var 35 (A35 p2))],3⟩,[6])::([true,true,true,true,false,true,true,false,false,false],⟨[(0,.ptr 0 0),(1,.ptr 1 0),(5,.ptr 2 0),(6,.bool false),(95,.ptr 0 0),(96,.ptr 2 1),(97,.i p2.2.1),(98,.i x16.1),(100,.ptr 2 1),(101,.i p2.2.1)],[(0,.tr E76 (some x16.2)),(1,.tr E80 (some p1_0)),(2,.var 35 (A35 p2))],3⟩,[4])::([true,true,true,false,true,true,true,false,false,false],⟨[(0,.ptr 0 0),(1,.ptr 1 0),(5,.ptr 2 0),(6,.bool false),(95,.ptr 0 0),(96,.ptr 2 1),(97,.i p2.2.1),(99,.ptr 1 0),(100,.ptr 2 1),(101,.i p2.2.1)],[(0,.tr E76 (some p0_0)),(1,.tr E80 (some p1_0)),(2,.var 35 (A35 p2))],3⟩,[3])::([true,true,true,true,true,true,true,false,false,false],⟨[(0,.ptr 0 0),(1,.ptr 1 0),(5,.ptr 2 0),(6,.bool false),(95,.ptr 0 0),(96,.ptr 2 1),(97,.i p2.2.1),(98,.i x16.1),(99,.ptr 1 0),(100,.ptr 2 1),(101,.i p2.2.1)],[(0,.tr E76 (some x16.2)),(1,.tr E80 (some p1_0)),(2,.var 35 (A35 p2))],3⟩,[7])::([true,true,true,true,true,true,true,true,false,false],⟨[(0,.ptr 0 0),(1,.ptr 1 0),(5,.ptr 2 0),(6,.bool false),(95,.ptr 0 0),(96,.ptr 2 1),(97,.i p2.2.1),(98,.i x16.1),(99,.ptr 1 0),(100,.ptr 2 1),(101,.i p2.2.1),(102,.i x18.1)],[(0,.tr E76 (some x16.2)),(1,.tr E80 (some x18.2)),(2,.var 35 (A35 p2))],3⟩,[8])::([true,true,true,true,true,true,true,true,true,false],⟨[(0,.ptr 0 0),(1,.ptr 1 0),(5,.ptr 2 0),(6,.bool false),(95,.ptr 0 0),(96,.ptr 2 1),(97,.i p2.2.1),(98,.i x16.1),(99,.ptr 1 0),(100,.ptr 2 1),(101,.i p2.2.1),(102,.i x18.1),(103,.bool (decide (x16.1=x18.1)))],[(0,.tr E76 (some x16.2)),(1,.tr E80 (some x18.2)),(2,.var 35 (A35 p2))],3⟩,[9])::([true,true,true,true,true,true,true,true,true,true],⟨[(0,.ptr 0 0),(1,.ptr 1 0),(5,.ptr 2 0),(6,.bool (decide (x16.1=x18.1))),(95,.ptr 0 0),(96,.ptr 2 1),(97,.i p2.2.1),(98,.i x16.1),(99,.ptr 1 0),(100,.ptr 2 1),(101,.i p2.2.1),(102,.i x18.1),(103,.bool (decide (x16.1=x18.1)))],[(0,.tr E76 (some x16.2)),(1,.tr E80 (some x18.2)),(2,.var 35 (A35 p2))],3⟩,[])::[]) ⟨[(0,.ptr 0 0),(1,.ptr 1 0),(5,.ptr 2 0),(6,.bool false)],[(0,.tr E76 (some p0_0)),(1,.tr E80 (some p1_0)),(2,.var 35 (A35 p2))],3⟩ ⟨[(0,.ptr 0 0),(1,.ptr 1 0),(5,.ptr 2 0),(6,.bool (decide (x16.1=x18.1))),(95,.ptr 0 0),(96,.ptr 2 1),(97,.i p2.2.1),(98,.i x16.1),(99,.ptr 1 0),(100,.ptr 2 1),(101,.i p2.2.1),(102,.i x18.1),(103,.bool (decide (x16.1=x18.1)))],[(0,.tr E76 (some x16.2)),(1,.tr E80 (some x18.2)),(2,.var 35 (A35 p2))],3⟩ (zAA hX [0,1,2] 4 J J wS wO) J J J J J ⟨⟨⟨_,_,rfl,rfl,?_⟩,⟨_,_,rfl,rfl,?_⟩,⟨_,_,rfl,rfl,?_⟩,⟨_,_,rfl,rfl,?_⟩,trivial⟩,⟨⟨_,_,rfl,rfl,?_⟩,⟨_,_,rfl,rfl,?_⟩,⟨_,_,rfl,rfl,?_⟩,trivial⟩,⟨⟨_,_,rfl,rfl,?_⟩,⟨_,_,rfl,rfl,?_⟩,⟨_,_,rfl,rfl,?_⟩,⟨_,_,rfl,rfl,?_⟩,trivial⟩,⟨⟨_,_,rfl,rfl,?_⟩,⟨_,_,rfl,rfl,?_⟩,⟨_,_,rfl,rfl,?_⟩,trivial⟩,⟨⟨_,_,rfl,rfl,?_⟩,⟨_,_,rfl,rfl,?_⟩,⟨_,_,rfl,rfl,?_⟩,⟨_,_,rfl,rfl,?_⟩,trivial⟩,⟨⟨_,_,rfl,rfl,?_⟩,⟨_,_,rfl,rfl,?_⟩,⟨_,_,rfl,rfl,?_⟩,trivial⟩,⟨⟨_,_,rfl,rfl,?_⟩,⟨_,_,rfl,rfl,?_⟩,trivial⟩,⟨⟨_,_,rfl,rfl,?_⟩,⟨_,_,rfl,rfl,?_⟩,⟨_,_,rfl,rfl,?_⟩,trivial⟩,⟨⟨_,_,rfl,rfl,?_⟩,⟨_,_,rfl,rfl,?_⟩,⟨_,_,rfl,rfl,?_⟩,trivial⟩,⟨⟨_,_,rfl,rfl,?_⟩,⟨_,_,rfl,rfl,?_⟩,⟨_,_,rfl,rfl,?_⟩,trivial⟩,⟨⟨_,_,rfl,rfl,?_⟩,⟨_,_,rfl,rfl,?_⟩,⟨_,_,rfl,rfl,?_⟩,⟨_,_,rfl,rfl,?_⟩,trivial⟩,⟨⟨_,_,rfl,rfl,?_⟩,⟨_,_,rfl,rfl,?_⟩,⟨_,_,rfl,rfl,?_⟩,trivial⟩,⟨⟨_,_,rfl,rfl,?_⟩,⟨_,_,rfl,rfl,?_⟩,⟨_,_,rfl,rfl,?_⟩,trivial⟩,⟨⟨_,_,rfl,rfl,?_⟩,⟨_,_,rfl,rfl,?_⟩,⟨_,_,rfl,rfl,?_⟩,trivial⟩,⟨⟨_,_,rfl,rfl,?_⟩,⟨_,_,rfl,rfl,?_⟩,trivial⟩,⟨⟨_,_,rfl,rfl,?_⟩,⟨_,_,rfl,rfl,?_⟩,⟨_,_,rfl,rfl,?_⟩,trivial⟩,⟨⟨_,_,rfl,rfl,?_⟩,⟨_,_,rfl,rfl,?_⟩,trivial⟩,⟨⟨_,_,rfl,rfl,?_⟩,⟨_,_,rfl,rfl,?_⟩,trivial⟩,⟨⟨_,_,rfl,rfl,?_⟩,⟨_,_,rfl,rfl,?_⟩,trivial⟩,⟨⟨_,_,rfl,rfl,?_⟩,⟨_,_,rfl,rfl,?_⟩,⟨_,_,rfl,rfl,?_⟩,trivial⟩,⟨⟨_,_,rfl,rfl,?_⟩,⟨_,_,rfl,rfl,?_⟩,⟨_,_,rfl,rfl,?_⟩,trivial⟩,⟨⟨_,_,rfl,rfl,?_⟩,⟨_,_,rfl,rfl,?_⟩,⟨_,_,rfl,rfl,?_⟩,trivial⟩,⟨⟨_,_,rfl,rfl,?_⟩,⟨_,_,rfl,rfl,?_⟩,trivial⟩,⟨⟨_,_,rfl,rfl,?_⟩,⟨_,_,rfl,rfl,?_⟩,trivial⟩,⟨⟨_,_,rfl,rfl,?_⟩,⟨_,_,rfl,rfl,?_⟩,trivial⟩,⟨⟨_,_,rfl,rfl,?_⟩,⟨_,_,rfl,rfl,?_⟩,⟨_,_,rfl,rfl,?_⟩,trivial⟩,⟨⟨_,_,rfl,rfl,?_⟩,⟨_,_,rfl,rfl,?_⟩,trivial⟩,⟨⟨_,_,rfl,rfl,?_⟩,⟨_,_,rfl,rfl,?_⟩,trivial⟩,⟨⟨_,_,rfl,rfl,?_⟩,trivial⟩,⟨⟨_,_,rfl,rfl,?_⟩,⟨_,_,rfl,rfl,?_⟩,trivial⟩,⟨⟨_,_,rfl,rfl,?_⟩,⟨_,_,rfl,rfl,?_⟩,trivial⟩,⟨⟨_,_,rfl,rfl,?_⟩,⟨_,_,rfl,rfl,?_⟩,trivial⟩,⟨⟨_,_,rfl,rfl,?_⟩,trivial⟩,⟨⟨_,_,rfl,rfl,?_⟩,⟨_,_,rfl,rfl,?_⟩,trivial⟩,⟨⟨_,_,rfl,rfl,?_⟩,⟨_,_,rfl,rfl,?_⟩,trivial⟩,⟨⟨_,_,rfl,rfl,?_⟩,⟨_,_,rfl,rfl,?_⟩,trivial⟩,⟨⟨_,_,rfl,rfl,?_⟩,trivial⟩,⟨⟨_,_,rfl,rfl,?_⟩,trivial⟩,⟨⟨_,_,rfl,rfl,?_⟩,trivial⟩,⟨⟨_,_,rfl,rfl,?_⟩,trivial⟩,⟨⟨_,_,rfl,rfl,?_⟩,trivial⟩,⟨⟨_,_,rfl,rfl,?_⟩,trivial⟩,⟨⟨_,_,rfl,rfl,?_⟩,trivial⟩,⟨⟨_,_,rfl,rfl,?_⟩,trivial⟩,trivial,trivial⟩ ?_
   ·exact (zAX (zAg J) (zAA hX [0,1,2] 4 J J ⟨⟨_,rfl,cv0⟩,⟨_,rfl,cv0⟩,⟨_,rfl,cv0⟩,⟨_,rfl,cv0⟩,⟨_,rfl,cv0⟩,trivial⟩ ⟨zAL,zAL,zAL,trivial⟩))
   ·exact (zAX (zAc (faX 35 1 J) J J) (zAA hX [0,1,2] 4 J J ⟨⟨_,rfl,cv0⟩,⟨_,rfl,cv0⟩,⟨_,rfl,cv0⟩,⟨_,rfl,cv0⟩,⟨_,rfl,cv0⟩,trivial⟩ ⟨zAL,zAL,zAL,trivial⟩))
   ·exact (zAX (zAg J) (zAA hX [0,1,2] 4 J J ⟨⟨_,rfl,cv0⟩,⟨_,rfl,cv0⟩,⟨_,rfl,cv0⟩,⟨_,rfl,cv0⟩,⟨_,rfl,cv0⟩,trivial⟩ ⟨zAL,zAL,zAL,trivial⟩))
   ·exact (zAX (zAc (faX 35 1 J) J J) (zAA hX [0,1,2] 4 J J ⟨⟨_,rfl,cv0⟩,⟨_,rfl,cv0⟩,⟨_,rfl,cv0⟩,⟨_,rfl,cv0⟩,⟨_,rfl,cv0⟩,trivial⟩ ⟨zAL,zAL,zAL,trivial⟩))
   ·exact (zAX (zAc (faX 35 1 J) J J) (zAA hX [0,1,2] 4 J J ⟨⟨_,rfl,cv0⟩,⟨_,rfl,cv0⟩,⟨_,rfl,cv0⟩,⟨_,rfl,cv0⟩,⟨_,rfl,cv0⟩,⟨_,rfl,cv0⟩,trivial⟩ ⟨zAL,zAL,zAL,trivial⟩))
   ·exact (zAX (zAg J) (zAA hX [0,1,2] 4 J J ⟨⟨_,rfl,cv0⟩,⟨_,rfl,cv0⟩,⟨_,rfl,cv0⟩,⟨_,rfl,cv0⟩,⟨_,rfl,cv0⟩,⟨_,rfl,cv0⟩,trivial⟩ ⟨zAL,zAL,zAL,trivial⟩))
   ·exact (zAX (zAc (faX 35 1 J) J J) (zAA hX [0,1,2] 4 J J ⟨⟨_,rfl,cv0⟩,⟨_,rfl,cv0⟩,⟨_,rfl,cv0⟩,⟨_,rfl,cv0⟩,⟨_,rfl,cv0⟩,⟨_,rfl,cv0⟩,trivial⟩ ⟨zAL,zAL,zAL,trivial⟩))
   ·exact (zAX (zAg J) (zAA hX [0,1,2] 4 J J ⟨⟨_,rfl,cv0⟩,⟨_,rfl,cv0⟩,⟨_,rfl,cv0⟩,⟨_,rfl,cv0⟩,⟨_,rfl,cv0⟩,⟨_,rfl,cv0⟩,trivial⟩ ⟨zAL,zAL,zAL,trivial⟩))
   ·exact (zAX (zAU (tsX 3 J) J J J) (zAA hX [0,1,2] 4 J J ⟨⟨_,rfl,cv0⟩,⟨_,rfl,cv0⟩,⟨_,rfl,cv0⟩,⟨_,rfl,cv0⟩,⟨_,rfl,cv0⟩,⟨_,rfl,cv0⟩,trivial⟩ ⟨zAL,zAL,zAL,trivial⟩))
   ·exact (zAX (zAg J) (zAA hX [0,1,2] 4 J J ⟨⟨_,rfl,cv0⟩,⟨_,rfl,cv0⟩,⟨_,rfl,cv0⟩,⟨_,rfl,cv0⟩,⟨_,rfl,cv0⟩,⟨_,rfl,cv0⟩,trivial⟩ ⟨zAL,zAL,zAL,trivial⟩))
   ·exact (zAX (zAc (faX 35 1 J) J J) (zAA hX [0,1,2] 4 J J ⟨⟨_,rfl,cv0⟩,⟨_,rfl,cv0⟩,⟨_,rfl,cv0⟩,⟨_,rfl,cv0⟩,⟨_,rfl,cv0⟩,⟨_,rfl,cv0⟩,trivial⟩ ⟨zAL,zAL,zAL,trivial⟩))
   ·exact (zAX (zAg J) (zAA hX [0,1,2] 4 J J ⟨⟨_,rfl,cv0⟩,⟨_,rfl,cv0⟩,⟨_,rfl,cv0⟩,⟨_,rfl,cv0⟩,⟨_,rfl,cv0⟩,⟨_,rfl,cv0⟩,trivial⟩ ⟨zAL,zAL,zAL,trivial⟩))
   ·exact (zAX (zAc (faX 35 1 J) J J) (zAA hX [0,1,2] 4 J J ⟨⟨_,rfl,cv0⟩,⟨_,rfl,cv0⟩,⟨_,rfl,cv0⟩,⟨_,rfl,cv0⟩,⟨_,rfl,cv0⟩,⟨_,rfl,cv0⟩,trivial⟩ ⟨zAL,zAL,zAL,trivial⟩))
   ·exact (zAX (zAc (faX 35 1 J) J J) (zAA hX [0,1,2] 4 J J ⟨⟨_,rfl,cv0⟩,⟨_,rfl,cv0⟩,⟨_,rfl,cv0⟩,⟨_,rfl,cv0⟩,⟨_,rfl,cv0⟩,⟨_,rfl,cv0⟩,trivial⟩ ⟨zAL,zAL,zAL,trivial⟩))
   ·exact (zAX (zAg J) (zAA hX [0,1,2] 4 J J ⟨⟨_,rfl,cv0⟩,⟨_,rfl,cv0⟩,⟨_,rfl,cv0⟩,⟨_,rfl,cv0⟩,⟨_,rfl,cv0⟩,⟨_,rfl,cv0⟩,trivial⟩ ⟨zAL,zAL,zAL,trivial⟩))
   ·exact (zAX (zAc (faX 35 1 J) J J) (zAA hX [0,1,2] 4 J J ⟨⟨_,rfl,cv0⟩,⟨_,rfl,cv0⟩,⟨_,rfl,cv0⟩,⟨_,rfl,cv0⟩,⟨_,rfl,cv0⟩,⟨_,rfl,cv0⟩,trivial⟩ ⟨zAL,zAL,zAL,trivial⟩))
   ·exact (zAX (zAg J) (zAA hX [0,1,2] 4 J J ⟨⟨_,rfl,cv0⟩,⟨_,rfl,cv0⟩,⟨_,rfl,cv0⟩,⟨_,rfl,cv0⟩,⟨_,rfl,cv0⟩,⟨_,rfl,cv0⟩,trivial⟩ ⟨zAL,zAL,zAL,trivial⟩))
   ·exact (zAX (zAU (tsX 3 J) J J J) (zAA hX [0,1,2] 4 J J ⟨⟨_,rfl,cv0⟩,⟨_,rfl,cv0⟩,⟨_,rfl,cv0⟩,⟨_,rfl,cv0⟩,⟨_,rfl,cv0⟩,⟨_,rfl,cv0⟩,trivial⟩ ⟨zAL,zAL,zAL,trivial⟩))
   ·exact (zAX (zAU (tsX 3 J) J J J) (zAA hX [0,1,2] 4 J J ⟨⟨_,rfl,cv0⟩,⟨_,rfl,cv0⟩,⟨_,rfl,cv0⟩,⟨_,rfl,cv0⟩,⟨_,rfl,cv0⟩,⟨_,rfl,cv0⟩,⟨_,rfl,cv0⟩,trivial⟩ ⟨zAL,zAL,zAL,trivial⟩))
   ·exact (zAX (zAg J) (zAA hX [0,1,2] 4 J J ⟨⟨_,rfl,cv0⟩,⟨_,rfl,cv0⟩,⟨_,rfl,cv0⟩,⟨_,rfl,cv0⟩,⟨_,rfl,cv0⟩,⟨_,rfl,cv0⟩,⟨_,rfl,cv0⟩,trivial⟩ ⟨zAL,zAL,zAL,trivial⟩))
   ·exact (zAX (zAc (faX 35 1 J) J J) (zAA hX [0,1,2] 4 J J ⟨⟨_,rfl,cv0⟩,⟨_,rfl,cv0⟩,⟨_,rfl,cv0⟩,⟨_,rfl,cv0⟩,⟨_,rfl,cv0⟩,⟨_,rfl,cv0⟩,⟨_,rfl,cv0⟩,trivial⟩ ⟨zAL,zAL,zAL,trivial⟩))
   ·exact (zAX (zAc (faX 35 1 J) J J) (zAA hX [0,1,2] 4 J J ⟨⟨_,rfl,cv0⟩,⟨_,rfl,cv0⟩,⟨_,rfl,cv0⟩,⟨_,rfl,cv0⟩,⟨_,rfl,cv0⟩,⟨_,rfl,cv0⟩,⟨_,rfl,cv0⟩,trivial⟩ ⟨zAL,zAL,zAL,trivial⟩))
   ·exact (zAX (zAc (faX 35 1 J) J J) (zAA hX [0,1,2] 4 J J ⟨⟨_,rfl,cv0⟩,⟨_,rfl,cv0⟩,⟨_,rfl,cv0⟩,⟨_,rfl,cv0⟩,⟨_,rfl,cv0⟩,⟨_,rfl,cv0⟩,⟨_,rfl,cv0⟩,trivial⟩ ⟨zAL,zAL,zAL,trivial⟩))
   ·exact (zAX (zAc (faX 35 1 J) J J) (zAA hX [0,1,2] 4 J J ⟨⟨_,rfl,cv0⟩,⟨_,rfl,cv0⟩,⟨_,rfl,cv0⟩,⟨_,rfl,cv0⟩,⟨_,rfl,cv0⟩,⟨_,rfl,cv0⟩,⟨_,rfl,cv0⟩,trivial⟩ ⟨zAL,zAL,zAL,trivial⟩))
   ·exact (zAX (zAg J) (zAA hX [0,1,2] 4 J J ⟨⟨_,rfl,cv0⟩,⟨_,rfl,cv0⟩,⟨_,rfl,cv0⟩,⟨_,rfl,cv0⟩,⟨_,rfl,cv0⟩,⟨_,rfl,cv0⟩,⟨_,rfl,cv0⟩,trivial⟩ ⟨zAL,zAL,zAL,trivial⟩))
   ·exact (zAX (zAU (tsX 3 J) J J J) (zAA hX [0,1,2] 4 J J ⟨⟨_,rfl,cv0⟩,⟨_,rfl,cv0⟩,⟨_,rfl,cv0⟩,⟨_,rfl,cv0⟩,⟨_,rfl,cv0⟩,⟨_,rfl,cv0⟩,⟨_,rfl,cv0⟩,trivial⟩ ⟨zAL,zAL,zAL,trivial⟩))
   ·exact (zAX (zAg J) (zAA hX [0,1,2] 4 J J ⟨⟨_,rfl,cv0⟩,⟨_,rfl,cv0⟩,⟨_,rfl,cv0⟩,⟨_,rfl,cv0⟩,⟨_,rfl,cv0⟩,⟨_,rfl,cv0⟩,⟨_,rfl,cv0⟩,trivial⟩ ⟨zAL,zAL,zAL,trivial⟩))
   ·exact (zAX (zAg J) (zAA hX [0,1,2] 4 J J ⟨⟨_,rfl,cv0⟩,⟨_,rfl,cv0⟩,⟨_,rfl,cv0⟩,⟨_,rfl,cv0⟩,⟨_,rfl,cv0⟩,⟨_,rfl,cv0⟩,⟨_,rfl,cv0⟩,trivial⟩ ⟨zAL,zAL,zAL,trivial⟩))
   ·exact (zAX (zAc (faX 35 1 J) J J) (zAA hX [0,1,2] 4 J J ⟨⟨_,rfl,cv0⟩,⟨_,rfl,cv0⟩,⟨_,rfl,cv0⟩,⟨_,rfl,cv0⟩,⟨_,rfl,cv0⟩,⟨_,rfl,cv0⟩,⟨_,rfl,cv0⟩,trivial⟩ ⟨zAL,zAL,zAL,trivial⟩))
   ·exact (zAX (zAg J) (zAA hX [0,1,2] 4 J J ⟨⟨_,rfl,cv0⟩,⟨_,rfl,cv0⟩,⟨_,rfl,cv0⟩,⟨_,rfl,cv0⟩,⟨_,rfl,cv0⟩,⟨_,rfl,cv0⟩,⟨_,rfl,cv0⟩,trivial⟩ ⟨zAL,zAL,zAL,trivial⟩))
   ·exact (zAX (zAU (tsX 3 J) J J J) (zAA hX [0,1,2] 4 J J ⟨⟨_,rfl,cv0⟩,⟨_,rfl,cv0⟩,⟨_,rfl,cv0⟩,⟨_,rfl,cv0⟩,⟨_,rfl,cv0⟩,⟨_,rfl,cv0⟩,⟨_,rfl,cv0⟩,trivial⟩ ⟨zAL,zAL,zAL,trivial⟩))
   ·exact (zAX (zAc (faX 35 1 J) J J) (zAA hX [0,1,2] 4 J J ⟨⟨_,rfl,cv0⟩,⟨_,rfl,cv0⟩,⟨_,rfl,cv0⟩,⟨_,rfl,cv0⟩,⟨_,rfl,cv0⟩,⟨_,rfl,cv0⟩,⟨_,rfl,cv0⟩,trivial⟩ ⟨zAL,zAL,zAL,trivial⟩))
   ·exact (zAX (zAg J) (zAA hX [0,1,2] 4 J J ⟨⟨_,rfl,cv0⟩,⟨_,rfl,cv0⟩,⟨_,rfl,cv0⟩,⟨_,rfl,cv0⟩,⟨_,rfl,cv0⟩,⟨_,rfl,cv0⟩,⟨_,rfl,cv0⟩,trivial⟩ ⟨zAL,zAL,zAL,trivial⟩))
   ·exact (zAX (zAU (tsX 3 J) J J J) (zAA hX [0,1,2] 4 J J ⟨⟨_,rfl,cv0⟩,⟨_,rfl,cv0⟩,⟨_,rfl,cv0⟩,⟨_,rfl,cv0⟩,⟨_,rfl,cv0⟩,⟨_,rfl,cv0⟩,⟨_,rfl,cv0⟩,trivial⟩ ⟨zAL,zAL,zAL,trivial⟩))
   ·exact (zAX (zAg J) (zAA hX [0,1,2] 4 J J ⟨⟨_,rfl,cv0⟩,⟨_,rfl,cv0⟩,⟨_,rfl,cv0⟩,⟨_,rfl,cv0⟩,⟨_,rfl,cv0⟩,⟨_,rfl,cv0⟩,⟨_,rfl,cv0⟩,trivial⟩ ⟨zAL,zAL,zAL,trivial⟩))
   ·exact (zAX (zAU (tsX 3 J) J J J) (zAA hX [0,1,2] 4 J J ⟨⟨_,rfl,cv0⟩,⟨_,rfl,cv0⟩,⟨_,rfl,cv0⟩,⟨_,rfl,cv0⟩,⟨_,rfl,cv0⟩,⟨_,rfl,cv0⟩,⟨_,rfl,cv0⟩,trivial⟩ ⟨zAL,zAL,zAL,trivial⟩))
   ·exact (zAX (zAg J) (zAA hX [0,1,2] 4 J J ⟨⟨_,rfl,cv0⟩,⟨_,rfl,cv0⟩,⟨_,rfl,cv0⟩,⟨_,rfl,cv0⟩,⟨_,rfl,cv0⟩,⟨_,rfl,cv0⟩,⟨_,rfl,cv0⟩,trivial⟩ ⟨zAL,zAL,zAL,trivial⟩))
   ·exact (zAX (zAc (faX 35 1 J) J J) (zAA hX [0,1,2] 4 J J ⟨⟨_,rfl,cv0⟩,⟨_,rfl,cv0⟩,⟨_,rfl,cv0⟩,⟨_,rfl,cv0⟩,⟨_,rfl,cv0⟩,⟨_,rfl,cv0⟩,⟨_,rfl,cv0⟩,trivial⟩ ⟨zAL,zAL,zAL,trivial⟩))
   ·exact (zAX (zAU (tsX 3 J) J J J) (zAA hX [0,1,2] 4 J J ⟨⟨_,rfl,cv0⟩,⟨_,rfl,cv0⟩,⟨_,rfl,cv0⟩,⟨_,rfl,cv0⟩,⟨_,rfl,cv0⟩,⟨_,rfl,cv0⟩,⟨_,rfl,cv0⟩,trivial⟩ ⟨zAL,zAL,zAL,trivial⟩))
   ·exact (zAX (zAg J) (zAA hX [0,1,2] 4 J J ⟨⟨_,rfl,cv0⟩,⟨_,rfl,cv0⟩,⟨_,rfl,cv0⟩,⟨_,rfl,cv0⟩,⟨_,rfl,cv0⟩,⟨_,rfl,cv0⟩,⟨_,rfl,cv0⟩,trivial⟩ ⟨zAL,zAL,zAL,trivial⟩))
   ·exact (zAX (zAc (faX 35 1 J) J J) (zAA hX [0,1,2] 4 J J ⟨⟨_,rfl,cv0⟩,⟨_,rfl,cv0⟩,⟨_,rfl,cv0⟩,⟨_,rfl,cv0⟩,⟨_,rfl,cv0⟩,⟨_,rfl,cv0⟩,⟨_,rfl,cv0⟩,trivial⟩ ⟨zAL,zAL,zAL,trivial⟩))
   ·exact (zAX (zAg J) (zAA hX [0,1,2] 4 J J ⟨⟨_,rfl,cv0⟩,⟨_,rfl,cv0⟩,⟨_,rfl,cv0⟩,⟨_,rfl,cv0⟩,⟨_,rfl,cv0⟩,⟨_,rfl,cv0⟩,⟨_,rfl,cv0⟩,trivial⟩ ⟨zAL,zAL,zAL,trivial⟩))
   ·exact (zAP (σ:=[0]) (as':=[.ptr 0 0,.i p2.2.1]) (f33_runs e17).x ent33 J ⟨cv0,cv0,trivial⟩ J J J (zAA hX [0,1,2] 4 J J wS wO))
   ·exact (zAX (zAg J) (zAA hX [0,1,2] 4 J J ⟨⟨_,rfl,cv0⟩,⟨_,rfl,cv0⟩,⟨_,rfl,cv0⟩,⟨_,rfl,cv0⟩,⟨_,rfl,cv0⟩,⟨_,rfl,cv0⟩,⟨_,rfl,cv0⟩,⟨_,rfl,cv0⟩,trivial⟩ ⟨zAL,zAL,zAL,trivial⟩))
   ·exact (zAX (zAc (faX 35 1 J) J J) (zAA hX [0,1,2] 4 J J ⟨⟨_,rfl,cv0⟩,⟨_,rfl,cv0⟩,⟨_,rfl,cv0⟩,⟨_,rfl,cv0⟩,⟨_,rfl,cv0⟩,⟨_,rfl,cv0⟩,⟨_,rfl,cv0⟩,⟨_,rfl,cv0⟩,trivial⟩ ⟨zAL,zAL,zAL,trivial⟩))
   ·exact (zAX (zAU (tsX 3 J) J J J) (zAA hX [0,1,2] 4 J J ⟨⟨_,rfl,cv0⟩,⟨_,rfl,cv0⟩,⟨_,rfl,cv0⟩,⟨_,rfl,cv0⟩,⟨_,rfl,cv0⟩,⟨_,rfl,cv0⟩,⟨_,rfl,cv0⟩,⟨_,rfl,cv0⟩,trivial⟩ ⟨zAL,zAL,zAL,trivial⟩))
   ·exact (zAX (zAc (faX 35 1 J) J J) (zAA hX [0,1,2] 4 J J ⟨⟨_,rfl,cv0⟩,⟨_,rfl,cv0⟩,⟨_,rfl,cv0⟩,⟨_,rfl,cv0⟩,⟨_,rfl,cv0⟩,⟨_,rfl,cv0⟩,⟨_,rfl,cv0⟩,⟨_,rfl,cv0⟩,trivial⟩ ⟨zAL,zAL,zAL,trivial⟩))
   ·exact (zAX (zAU (tsX 3 J) J J J) (zAA hX [0,1,2] 4 J J ⟨⟨_,rfl,cv0⟩,⟨_,rfl,cv0⟩,⟨_,rfl,cv0⟩,⟨_,rfl,cv0⟩,⟨_,rfl,cv0⟩,⟨_,rfl,cv0⟩,⟨_,rfl,cv0⟩,⟨_,rfl,cv0⟩,trivial⟩ ⟨zAL,zAL,zAL,trivial⟩))
   ·exact (zAX (zAg J) (zAA hX [0,1,2] 4 J J ⟨⟨_,rfl,cv0⟩,⟨_,rfl,cv0⟩,⟨_,rfl,cv0⟩,⟨_,rfl,cv0⟩,⟨_,rfl,cv0⟩,⟨_,rfl,cv0⟩,⟨_,rfl,cv0⟩,⟨_,rfl,cv0⟩,trivial⟩ ⟨zAL,zAL,zAL,trivial⟩))
   ·exact (zAX (zAU (tsX 3 J) J J J) (zAA hX [0,1,2] 4 J J ⟨⟨_,rfl,cv0⟩,⟨_,rfl,cv0⟩,⟨_,rfl,cv0⟩,⟨_,rfl,cv0⟩,⟨_,rfl,cv0⟩,⟨_,rfl,cv0⟩,⟨_,rfl,cv0⟩,⟨_,rfl,cv0⟩,trivial⟩ ⟨zAL,zAL,zAL,trivial⟩))
   ·exact (zAX (zAc (faX 35 1 J) J J) (zAA hX [0,1,2] 4 J J ⟨⟨_,rfl,cv0⟩,⟨_,rfl,cv0⟩,⟨_,rfl,cv0⟩,⟨_,rfl,cv0⟩,⟨_,rfl,cv0⟩,⟨_,rfl,cv0⟩,⟨_,rfl,cv0⟩,⟨_,rfl,cv0⟩,trivial⟩ ⟨zAL,zAL,zAL,trivial⟩))
   ·exact (zAX (zAU (tsX 3 J) J J J) (zAA hX [0,1,2] 4 J J ⟨⟨_,rfl,cv0⟩,⟨_,rfl,cv0⟩,⟨_,rfl,cv0⟩,⟨_,rfl,cv0⟩,⟨_,rfl,cv0⟩,⟨_,rfl,cv0⟩,⟨_,rfl,cv0⟩,⟨_,rfl,cv0⟩,trivial⟩ ⟨zAL,zAL,zAL,trivial⟩))
   ·exact (zAX (zAc (faX 35 1 J) J J) (zAA hX [0,1,2] 4 J J ⟨⟨_,rfl,cv0⟩,⟨_,rfl,cv0⟩,⟨_,rfl,cv0⟩,⟨_,rfl,cv0⟩,⟨_,rfl,cv0⟩,⟨_,rfl,cv0⟩,⟨_,rfl,cv0⟩,⟨_,rfl,cv0⟩,trivial⟩ ⟨zAL,zAL,zAL,trivial⟩))
   ·exact (zAX (zAg J) (zAA hX [0,1,2] 4 J J ⟨⟨_,rfl,cv0⟩,⟨_,rfl,cv0⟩,⟨_,rfl,cv0⟩,⟨_,rfl,cv0⟩,⟨_,rfl,cv0⟩,⟨_,rfl,cv0⟩,⟨_,rfl,cv0⟩,⟨_,rfl,cv0⟩,trivial⟩ ⟨zAL,zAL,zAL,trivial⟩))
   ·exact (zAX (zAg J) (zAA hX [0,1,2] 4 J J ⟨⟨_,rfl,cv0⟩,⟨_,rfl,cv0⟩,⟨_,rfl,cv0⟩,⟨_,rfl,cv0⟩,⟨_,rfl,cv0⟩,⟨_,rfl,cv0⟩,⟨_,rfl,cv0⟩,⟨_,rfl,cv0⟩,trivial⟩ ⟨zAL,zAL,zAL,trivial⟩))
   ·exact (zAX (zAc (faX 35 1 J) J J) (zAA hX [0,1,2] 4 J J ⟨⟨_,rfl,cv0⟩,⟨_,rfl,cv0⟩,⟨_,rfl,cv0⟩,⟨_,rfl,cv0⟩,⟨_,rfl,cv0⟩,⟨_,rfl,cv0⟩,⟨_,rfl,cv0⟩,⟨_,rfl,cv0⟩,trivial⟩ ⟨zAL,zAL,zAL,trivial⟩))
   ·exact (zAX (zAg J) (zAA hX [0,1,2] 4 J J ⟨⟨_,rfl,cv0⟩,⟨_,rfl,cv0⟩,⟨_,rfl,cv0⟩,⟨_,rfl,cv0⟩,⟨_,rfl,cv0⟩,⟨_,rfl,cv0⟩,⟨_,rfl,cv0⟩,⟨_,rfl,cv0⟩,trivial⟩ ⟨zAL,zAL,zAL,trivial⟩))
   ·exact (zAX (zAg J) (zAA hX [0,1,2] 4 J J ⟨⟨_,rfl,cv0⟩,⟨_,rfl,cv0⟩,⟨_,rfl,cv0⟩,⟨_,rfl,cv0⟩,⟨_,rfl,cv0⟩,⟨_,rfl,cv0⟩,⟨_,rfl,cv0⟩,⟨_,rfl,cv0⟩,trivial⟩ ⟨zAL,zAL,zAL,trivial⟩))
   ·exact (zAX (zAU (tsX 3 J) J J J) (zAA hX [0,1,2] 4 J J ⟨⟨_,rfl,cv0⟩,⟨_,rfl,cv0⟩,⟨_,rfl,cv0⟩,⟨_,rfl,cv0⟩,⟨_,rfl,cv0⟩,⟨_,rfl,cv0⟩,⟨_,rfl,cv0⟩,⟨_,rfl,cv0⟩,trivial⟩ ⟨zAL,zAL,zAL,trivial⟩))
   ·exact (zAX (zAg J) (zAA hX [0,1,2] 4 J J ⟨⟨_,rfl,cv0⟩,⟨_,rfl,cv0⟩,⟨_,rfl,cv0⟩,⟨_,rfl,cv0⟩,⟨_,rfl,cv0⟩,⟨_,rfl,cv0⟩,⟨_,rfl,cv0⟩,⟨_,rfl,cv0⟩,trivial⟩ ⟨zAL,zAL,zAL,trivial⟩))
   ·exact (zAX (zAU (tsX 3 J) J J J) (zAA hX [0,1,2] 4 J J ⟨⟨_,rfl,cv0⟩,⟨_,rfl,cv0⟩,⟨_,rfl,cv0⟩,⟨_,rfl,cv0⟩,⟨_,rfl,cv0⟩,⟨_,rfl,cv0⟩,⟨_,rfl,cv0⟩,⟨_,rfl,cv0⟩,trivial⟩ ⟨zAL,zAL,zAL,trivial⟩))
   ·exact (zAX (zAU (tsX 3 J) J J J) (zAA hX [0,1,2] 4 J J ⟨⟨_,rfl,cv0⟩,⟨_,rfl,cv0⟩,⟨_,rfl,cv0⟩,⟨_,rfl,cv0⟩,⟨_,rfl,cv0⟩,⟨_,rfl,cv0⟩,⟨_,rfl,cv0⟩,⟨_,rfl,cv0⟩,trivial⟩ ⟨zAL,zAL,zAL,trivial⟩))
   ·exact (zAX (zAg J) (zAA hX [0,1,2] 4 J J ⟨⟨_,rfl,cv0⟩,⟨_,rfl,cv0⟩,⟨_,rfl,cv0⟩,⟨_,rfl,cv0⟩,⟨_,rfl,cv0⟩,⟨_,rfl,cv0⟩,⟨_,rfl,cv0⟩,⟨_,rfl,cv0⟩,trivial⟩ ⟨zAL,zAL,zAL,trivial⟩))
   ·exact (zAX (zAU (tsX 3 J) J J J) (zAA hX [0,1,2] 4 J J ⟨⟨_,rfl,cv0⟩,⟨_,rfl,cv0⟩,⟨_,rfl,cv0⟩,⟨_,rfl,cv0⟩,⟨_,rfl,cv0⟩,⟨_,rfl,cv0⟩,⟨_,rfl,cv0⟩,⟨_,rfl,cv0⟩,trivial⟩ ⟨zAL,zAL,zAL,trivial⟩))
   ·exact (zAX (zAg J) (zAA hX [0,1,2] 4 J J ⟨⟨_,rfl,cv0⟩,⟨_,rfl,cv0⟩,⟨_,rfl,cv0⟩,⟨_,rfl,cv0⟩,⟨_,rfl,cv0⟩,⟨_,rfl,cv0⟩,⟨_,rfl,cv0⟩,⟨_,rfl,cv0⟩,trivial⟩ ⟨zAL,zAL,zAL,trivial⟩))
   ·exact (zAX (zAg J) (zAA hX [0,1,2] 4 J J ⟨⟨_,rfl,cv0⟩,⟨_,rfl,cv0⟩,⟨_,rfl,cv0⟩,⟨_,rfl,cv0⟩,⟨_,rfl,cv0⟩,⟨_,rfl,cv0⟩,⟨_,rfl,cv0⟩,⟨_,rfl,cv0⟩,trivial⟩ ⟨zAL,zAL,zAL,trivial⟩))
   ·exact (zAX (zAc (faX 35 1 J) J J) (zAA hX [0,1,2] 4 J J ⟨⟨_,rfl,cv0⟩,⟨_,rfl,cv0⟩,⟨_,rfl,cv0⟩,⟨_,rfl,cv0⟩,⟨_,rfl,cv0⟩,⟨_,rfl,cv0⟩,⟨_,rfl,cv0⟩,⟨_,rfl,cv0⟩,trivial⟩ ⟨zAL,zAL,zAL,trivial⟩))
   ·exact (zAX (zAg J) (zAA hX [0,1,2] 4 J J ⟨⟨_,rfl,cv0⟩,⟨_,rfl,cv0⟩,⟨_,rfl,cv0⟩,⟨_,rfl,cv0⟩,⟨_,rfl,cv0⟩,⟨_,rfl,cv0⟩,⟨_,rfl,cv0⟩,⟨_,rfl,cv0⟩,⟨_,rfl,cv0⟩,trivial⟩ ⟨zAL,zAL,zAL,trivial⟩))
   ·exact (zAX (zAc (faX 35 1 J) J J) (zAA hX [0,1,2] 4 J J ⟨⟨_,rfl,cv0⟩,⟨_,rfl,cv0⟩,⟨_,rfl,cv0⟩,⟨_,rfl,cv0⟩,⟨_,rfl,cv0⟩,⟨_,rfl,cv0⟩,⟨_,rfl,cv0⟩,⟨_,rfl,cv0⟩,⟨_,rfl,cv0⟩,trivial⟩ ⟨zAL,zAL,zAL,trivial⟩))
   ·exact (zAP (σ:=[0]) (as':=[.ptr 0 0,.i p2.2.1]) (f33_runs e17).x ent33 J ⟨cv0,cv0,trivial⟩ J J J (zAA hX [0,1,2] 4 J J wS wO))
   ·exact (zAX (zAc (faX 35 1 J) J J) (zAA hX [0,1,2] 4 J J ⟨⟨_,rfl,cv0⟩,⟨_,rfl,cv0⟩,⟨_,rfl,cv0⟩,⟨_,rfl,cv0⟩,⟨_,rfl,cv0⟩,⟨_,rfl,cv0⟩,⟨_,rfl,cv0⟩,⟨_,rfl,cv0⟩,⟨_,rfl,cv0⟩,trivial⟩ ⟨zAL,zAL,zAL,trivial⟩))
   ·exact (zAP (σ:=[0]) (as':=[.ptr 0 0,.i p2.2.1]) (f33_runs e17).x ent33 J ⟨cv0,cv0,trivial⟩ J J J (zAA hX [0,1,2] 4 J J wS wO))
   ·exact (zAX (zAg J) (zAA hX [0,1,2] 4 J J ⟨⟨_,rfl,cv0⟩,⟨_,rfl,cv0⟩,⟨_,rfl,cv0⟩,⟨_,rfl,cv0⟩,⟨_,rfl,cv0⟩,⟨_,rfl,cv0⟩,⟨_,rfl,cv0⟩,⟨_,rfl,cv0⟩,⟨_,rfl,cv0⟩,trivial⟩ ⟨zAL,zAL,zAL,trivial⟩))
   ·exact (zAX (zAU (tsX 3 J) J J J) (zAA hX [0,1,2] 4 J J ⟨⟨_,rfl,cv0⟩,⟨_,rfl,cv0⟩,⟨_,rfl,cv0⟩,⟨_,rfl,cv0⟩,⟨_,rfl,cv0⟩,⟨_,rfl,cv0⟩,⟨_,rfl,cv0⟩,⟨_,rfl,cv0⟩,⟨_,rfl,cv0⟩,trivial⟩ ⟨zAL,zAL,zAL,trivial⟩))
   ·exact (zAX (zAU (tsX 3 J) J J J) (zAA hX [0,1,2] 4 J J ⟨⟨_,rfl,cv0⟩,⟨_,rfl,cv0⟩,⟨_,rfl,cv0⟩,⟨_,rfl,cv0⟩,⟨_,rfl,cv0⟩,⟨_,rfl,cv0⟩,⟨_,rfl,cv0⟩,⟨_,rfl,cv0⟩,⟨_,rfl,cv0⟩,trivial⟩ ⟨zAL,zAL,zAL,trivial⟩))
   ·exact (zAX (zAU (tsX 3 J) J J J) (zAA hX [0,1,2] 4 J J ⟨⟨_,rfl,cv0⟩,⟨_,rfl,cv0⟩,⟨_,rfl,cv0⟩,⟨_,rfl,cv0⟩,⟨_,rfl,cv0⟩,⟨_,rfl,cv0⟩,⟨_,rfl,cv0⟩,⟨_,rfl,cv0⟩,⟨_,rfl,cv0⟩,trivial⟩ ⟨zAL,zAL,zAL,trivial⟩))
   ·exact (zAX (zAU (tsX 3 J) J J J) (zAA hX [0,1,2] 4 J J ⟨⟨_,rfl,cv0⟩,⟨_,rfl,cv0⟩,⟨_,rfl,cv0⟩,⟨_,rfl,cv0⟩,⟨_,rfl,cv0⟩,⟨_,rfl,cv0⟩,⟨_,rfl,cv0⟩,⟨_,rfl,cv0⟩,⟨_,rfl,cv0⟩,trivial⟩ ⟨zAL,zAL,zAL,trivial⟩))
   ·exact (zAX (zAg J) (zAA hX [0,1,2] 4 J J ⟨⟨_,rfl,cv0⟩,⟨_,rfl,cv0⟩,⟨_,rfl,cv0⟩,⟨_,rfl,cv0⟩,⟨_,rfl,cv0⟩,⟨_,rfl,cv0⟩,⟨_,rfl,cv0⟩,⟨_,rfl,cv0⟩,⟨_,rfl,cv0⟩,trivial⟩ ⟨zAL,zAL,zAL,trivial⟩))
   ·exact (zAX (zAc (faX 35 1 J) J J) (zAA hX [0,1,2] 4 J J ⟨⟨_,rfl,cv0⟩,⟨_,rfl,cv0⟩,⟨_,rfl,cv0⟩,⟨_,rfl,cv0⟩,⟨_,rfl,cv0⟩,⟨_,rfl,cv0⟩,⟨_,rfl,cv0⟩,⟨_,rfl,cv0⟩,⟨_,rfl,cv0⟩,trivial⟩ ⟨zAL,zAL,zAL,trivial⟩))
   ·exact (zAX (zAg J) (zAA hX [0,1,2] 4 J J ⟨⟨_,rfl,cv0⟩,⟨_,rfl,cv0⟩,⟨_,rfl,cv0⟩,⟨_,rfl,cv0⟩,⟨_,rfl,cv0⟩,⟨_,rfl,cv0⟩,⟨_,rfl,cv0⟩,⟨_,rfl,cv0⟩,⟨_,rfl,cv0⟩,trivial⟩ ⟨zAL,zAL,zAL,trivial⟩))
   ·exact (zAX (zAU (tsX 3 J) J J J) (zAA hX [0,1,2] 4 J J ⟨⟨_,rfl,cv0⟩,⟨_,rfl,cv0⟩,⟨_,rfl,cv0⟩,⟨_,rfl,cv0⟩,⟨_,rfl,cv0⟩,⟨_,rfl,cv0⟩,⟨_,rfl,cv0⟩,⟨_,rfl,cv0⟩,⟨_,rfl,cv0⟩,trivial⟩ ⟨zAL,zAL,zAL,trivial⟩))
   ·exact (zAX (zAg J) (zAA hX [0,1,2] 4 J J ⟨⟨_,rfl,cv0⟩,⟨_,rfl,cv0⟩,⟨_,rfl,cv0⟩,⟨_,rfl,cv0⟩,⟨_,rfl,cv0⟩,⟨_,rfl,cv0⟩,⟨_,rfl,cv0⟩,⟨_,rfl,cv0⟩,⟨_,rfl,cv0⟩,trivial⟩ ⟨zAL,zAL,zAL,trivial⟩))
   ·exact (zAX (zAg J) (zAA hX [0,1,2] 4 J J ⟨⟨_,rfl,cv0⟩,⟨_,rfl,cv0⟩,⟨_,rfl,cv0⟩,⟨_,rfl,cv0⟩,⟨_,rfl,cv0⟩,⟨_,rfl,cv0⟩,⟨_,rfl,cv0⟩,⟨_,rfl,cv0⟩,⟨_,rfl,cv0⟩,trivial⟩ ⟨zAL,zAL,zAL,trivial⟩))
   ·exact (zAX (zAg J) (zAA hX [0,1,2] 4 J J ⟨⟨_,rfl,cv0⟩,⟨_,rfl,cv0⟩,⟨_,rfl,cv0⟩,⟨_,rfl,cv0⟩,⟨_,rfl,cv0⟩,⟨_,rfl,cv0⟩,⟨_,rfl,cv0⟩,⟨_,rfl,cv0⟩,⟨_,rfl,cv0⟩,trivial⟩ ⟨zAL,zAL,zAL,trivial⟩))
   ·exact (zAX (zAU (tsX 3 J) J J J) (zAA hX [0,1,2] 4 J J ⟨⟨_,rfl,cv0⟩,⟨_,rfl,cv0⟩,⟨_,rfl,cv0⟩,⟨_,rfl,cv0⟩,⟨_,rfl,cv0⟩,⟨_,rfl,cv0⟩,⟨_,rfl,cv0⟩,⟨_,rfl,cv0⟩,⟨_,rfl,cv0⟩,trivial⟩ ⟨zAL,zAL,zAL,trivial⟩))
   ·exact (zAX (zAc (faX 35 1 J) J J) (zAA hX [0,1,2] 4 J J ⟨⟨_,rfl,cv0⟩,⟨_,rfl,cv0⟩,⟨_,rfl,cv0⟩,⟨_,rfl,cv0⟩,⟨_,rfl,cv0⟩,⟨_,rfl,cv0⟩,⟨_,rfl,cv0⟩,⟨_,rfl,cv0⟩,⟨_,rfl,cv0⟩,⟨_,rfl,cv0⟩,trivial⟩ ⟨zAL,zAL,zAL,trivial⟩))
   ·exact (zAX (zAg J) (zAA hX [0,1,2] 4 J J ⟨⟨_,rfl,cv0⟩,⟨_,rfl,cv0⟩,⟨_,rfl,cv0⟩,⟨_,rfl,cv0⟩,⟨_,rfl,cv0⟩,⟨_,rfl,cv0⟩,⟨_,rfl,cv0⟩,⟨_,rfl,cv0⟩,⟨_,rfl,cv0⟩,⟨_,rfl,cv0⟩,trivial⟩ ⟨zAL,zAL,zAL,trivial⟩))
   ·exact (zAX (zAU (tsX 3 J) J J J) (zAA hX [0,1,2] 4 J J ⟨⟨_,rfl,cv0⟩,⟨_,rfl,cv0⟩,⟨_,rfl,cv0⟩,⟨_,rfl,cv0⟩,⟨_,rfl,cv0⟩,⟨_,rfl,cv0⟩,⟨_,rfl,cv0⟩,⟨_,rfl,cv0⟩,⟨_,rfl,cv0⟩,⟨_,rfl,cv0⟩,trivial⟩ ⟨zAL,zAL,zAL,trivial⟩))
   ·exact (zAP (σ:=[0]) (as':=[.ptr 0 0,.i p2.2.1]) (f33_runs e17).x ent33 J ⟨cv0,cv0,trivial⟩ J J J (zAA hX [0,1,2] 4 J J wS wO))
   ·exact (zAX (zAU (tsX 3 J) J J J) (zAA hX [0,1,2] 4 J J ⟨⟨_,rfl,cv0⟩,⟨_,rfl,cv0⟩,⟨_,rfl,cv0⟩,⟨_,rfl,cv0⟩,⟨_,rfl,cv0⟩,⟨_,rfl,cv0⟩,⟨_,rfl,cv0⟩,⟨_,rfl,cv0⟩,⟨_,rfl,cv0⟩,⟨_,rfl,cv0⟩,trivial⟩ ⟨zAL,zAL,zAL,trivial⟩))
   ·exact (zAP (σ:=[0]) (as':=[.ptr 0 0,.i p2.2.1]) (f33_runs e17).x ent33 J ⟨cv0,cv0,trivial⟩ J J J (zAA hX [0,1,2] 4 J J wS wO))
   ·exact (zAX (zAg J) (zAA hX [0,1,2] 4 J J ⟨⟨_,rfl,cv0⟩,⟨_,rfl,cv0⟩,⟨_,rfl,cv0⟩,⟨_,rfl,cv0⟩,⟨_,rfl,cv0⟩,⟨_,rfl,cv0⟩,⟨_,rfl,cv0⟩,⟨_,rfl,cv0⟩,⟨_,rfl,cv0⟩,⟨_,rfl,cv0⟩,trivial⟩ ⟨zAL,zAL,zAL,trivial⟩))
   ·exact (zAX (zAU (tsX 3 J) J J J) (zAA hX [0,1,2] 4 J J ⟨⟨_,rfl,cv0⟩,⟨_,rfl,cv0⟩,⟨_,rfl,cv0⟩,⟨_,rfl,cv0⟩,⟨_,rfl,cv0⟩,⟨_,rfl,cv0⟩,⟨_,rfl,cv0⟩,⟨_,rfl,cv0⟩,⟨_,rfl,cv0⟩,⟨_,rfl,cv0⟩,trivial⟩ ⟨zAL,zAL,zAL,trivial⟩))
   ·exact (zAX (zAg J) (zAA hX [0,1,2] 4 J J ⟨⟨_,rfl,cv0⟩,⟨_,rfl,cv0⟩,⟨_,rfl,cv0⟩,⟨_,rfl,cv0⟩,⟨_,rfl,cv0⟩,⟨_,rfl,cv0⟩,⟨_,rfl,cv0⟩,⟨_,rfl,cv0⟩,⟨_,rfl,cv0⟩,⟨_,rfl,cv0⟩,trivial⟩ ⟨zAL,zAL,zAL,trivial⟩))
   ·exact (zAX (zAU (tsX 3 J) J J J) (zAA hX [0,1,2] 4 J J ⟨⟨_,rfl,cv0⟩,⟨_,rfl,cv0⟩,⟨_,rfl,cv0⟩,⟨_,rfl,cv0⟩,⟨_,rfl,cv0⟩,⟨_,rfl,cv0⟩,⟨_,rfl,cv0⟩,⟨_,rfl,cv0⟩,⟨_,rfl,cv0⟩,⟨_,rfl,cv0⟩,⟨_,rfl,cv0⟩,trivial⟩ ⟨zAL,zAL,zAL,trivial⟩))
   ·exact (zAX (zAg J) (zAA hX [0,1,2] 4 J J ⟨⟨_,rfl,cv0⟩,⟨_,rfl,cv0⟩,⟨_,rfl,cv0⟩,⟨_,rfl,cv0⟩,⟨_,rfl,cv0⟩,⟨_,rfl,cv0⟩,⟨_,rfl,cv0⟩,⟨_,rfl,cv0⟩,⟨_,rfl,cv0⟩,⟨_,rfl,cv0⟩,⟨_,rfl,cv0⟩,trivial⟩ ⟨zAL,zAL,zAL,trivial⟩))
   ·exact (zAP (σ:=[0]) (as':=[.ptr 0 0,.i p2.2.1]) (f33_runs e17).x ent33 J ⟨cv0,cv0,trivial⟩ J J J (zAA hX [0,1,2] 4 J J wS wO))
   ·exact (zAP (σ:=[1]) (as':=[.ptr 1 0,.i p2.2.1]) (f34_runs e19).x ent34 J ⟨cv0,cv0,trivial⟩ J J J (zAA hX [0,1,2] 4 J J wS wO))
   ·exact (zAX (av_eql J J) (zAA hX [0,1,2] 4 J J ⟨⟨_,rfl,cv0⟩,⟨_,rfl,cv0⟩,⟨_,rfl,cv0⟩,⟨_,rfl,cv0⟩,⟨_,rfl,cv0⟩,⟨_,rfl,cv0⟩,⟨_,rfl,cv0⟩,⟨_,rfl,cv0⟩,⟨_,rfl,cv0⟩,⟨_,rfl,cv0⟩,⟨_,rfl,cv0⟩,⟨_,rfl,cv0⟩,⟨_,rfl,cv0⟩,trivial⟩ ⟨zAL,zAL,zAL,trivial⟩))
   ·exact (zAX (av_assign J) (zAA hX [0,1,2] 4 J J ⟨⟨_,rfl,cv0⟩,⟨_,rfl,cv0⟩,⟨_,rfl,cv0⟩,⟨_,rfl,cv0⟩,⟨_,rfl,cv0⟩,⟨_,rfl,cv0⟩,⟨_,rfl,cv0⟩,⟨_,rfl,cv0⟩,⟨_,rfl,cv0⟩,⟨_,rfl,cv0⟩,⟨_,rfl,cv0⟩,⟨_,rfl,cv0⟩,⟨_,rfl,cv0⟩,trivial⟩ ⟨zAL,zAL,zAL,trivial⟩))
   obtain rfl:=Option.some.inj hr
   exact zAZ (zAw (zAE (zAC (zAe (l':=[(6,.bool (decide (x16.1=x18.1)))]) (Hs:=[(0,.tr E76 (some x16.2)),(1,.tr E80 (some x18.2))]) (n:=2) (zAA hX [0,1] 4 J J wS wO) J J J ⟨rfl,trivial⟩))))
  refine sq<|rg<|V veq<|V va<|nl<|an<|?_
  refine cnd (fun hc20 hr=>?_) (fun hc20 hr=>?_)
  ·obtain ⟨x21,e22,hr⟩:=zA hr
   obtain ⟨x23,e24,hr⟩:=zA hr
   refine sq<|rg<|V vm<|V vfp<|V vlp<|?_
   refine zAG (zAd (i:=0) (W76 p0_0 3 4) [.map .i Y4 p0_0.2.1,.map .i Y5 p0_0.2.2.1] J J J J)<|V (zBD (as':=[.ptr 0 0,.i p2.2.1]) (Hs:=[]) (zC6 e22).x ent17 J ⟨cv0,cv0,trivial⟩ J J J)<|V vm<|V vx<|V vx<|O oa<|O os<|V va<|nl<|an<|sq<|rg<|V vm<|V vfp<|V vlp<|?_
   refine zAG (zAd (i:=1) [.sl Y2 p1_0.1,.osl 6,.osl 7,.i p1_0.2.2.2.1,.i p1_0.2.2.2.2] [.sl 54 Y4 p1_0.2.1,.sl 42 Y5 p1_0.2.2.1] J J J J)<|V (zBD (as':=[.ptr 1 0,.i p2.2.1]) (Hs:=[]) (f35_runs e24).x ent35 J ⟨cv0,cv0,trivial⟩ J J J)<|V vm<|V vx<|V vx<|O oa<|O os<|V va<|nl<|an<|sq<|?_
   refine zAa [0,1,5,11,12,13,14] [(true,.agg [.i x21.1.1,.i x21.1.2.1,.str x21.1.2.2]),(true,.agg [.i x23.1.1,.i x23.1.2.1,.str x23.1.2.2]),(true,.bool ((decide (x21.1.1=x23.1.1))&&((decide (x21.1.2.1=x23.1.2.1))&&(decide (bstr x21.1.2.2=bstr x23.1.2.2))))),(true,.bool ((decide (x21.1.1=x23.1.1))&&((decide (x21.1.2.1=x23.1.2.1))&&(decide (bstr x21.1.2.2=bstr x23.1.2.2))))),((decide (x21.1.1=x23.1.1))&&((decide (x21.1.2.1=x23.1.2.1))&&(decide (bstr x21.1.2.2=bstr x23.1.2.2))),.i x21.2),((decide (x21.1.1=x23.1.1))&&((decide (x21.1.2.1=x23.1.2.1))&&(decide (bstr x21.1.2.2=bstr x23.1.2.2))),.i x23.2),((decide (x21.1.1=x23.1.1))&&((decide (x21.1.2.1=x23.1.2.1))&&(decide (bstr x21.1.2.2=bstr x23.1.2.2))),.bool (decide (x21.2=x23.2))),(true,.bool (((decide (x21.1.1=x23.1.1))&&((decide (x21.1.2.1=x23.1.2.1))&&(decide (bstr x21.1.2.2=bstr x23.1.2.2))))&&(decide (x21.2=x23.2)))),(true,.bool (((decide (x21.1.1=x23.1.1))&&((decide (x21.1.2.1=x23.1.2.1))&&(decide (bstr x21.1.2.2=bstr x23.1.2.2))))&&(decide (x21.2=x23.2))))] [[],[],[0,1],[2],[3],[3],[4,5,3],[6,3],[7]] [8] J J J J J ⟨oB wlP,oB wlP,zAr J (fun hg=>zAD ⟨rfl,rfl,trivial⟩) (fun hg=>av_eqlA (r:=(decide (x21.1.1=x23.1.1))&&((decide (x21.1.2.1=x23.1.2.1))&&(decide (bstr x21.1.2.2=bstr x23.1.2.2)))) eq54 J J J J J J),oB wm,oB wm,oB wm,oB weq,zBe,oB wa,trivial⟩ (zAD ⟨rfl,trivial⟩) ?_
   obtain rfl:=Option.some.inj hr
   exact zAZ (zAw (zAE (zAC (zAe (l':=[(6,.bool (((decide (x21.1.1=x23.1.1))&&((decide (x21.1.2.1=x23.1.2.1))&&(decide (bstr x21.1.2.2=bstr x23.1.2.2))))&&(decide (x21.2=x23.2))))]) (Hs:=[(0,.tr E76 (some p0_0)),(1,.tr E80 (some p1_0))]) (n:=2) (Wk.trans (pk (i:=0) (e:=F76) (js:=[3,4]) p0_0) (Wk.trans (pk (i:=1) (e:=F80) (js:=[6,7]) p1_0) (zAA hX [0,1] 4 J J wS wO))) J J J ⟨rfl,trivial⟩))))
  refine sq<|rg<|V veq<|V va<|nl<|an<|?_
  refine cnd (fun hc25 hr=>?_) (fun hc25 hr=>?_)
  ·obtain ⟨x26,e27,hr⟩:=zA hr
   refine sq<|rg<|V vm<|V vfp<|V vlp<|?_
   refine zAK (zAP (σ:=[0]) (as':=[.ptr 0 0,.i p2.2.1]) (f14_runs e27).x ent14 J ⟨cv0,cv0,trivial⟩ J J J ?_)
   obtain ⟨x28,e29,hr⟩:=zA hr
   refine V vm<|V vx<|V vx<|O oa<|O os<|V va<|nl<|an<|sq<|rg<|V vm<|V vfp<|V vlp<|?_
   refine zAK (zAP (σ:=[1]) (as':=[.ptr 1 0,.i p2.2.1]) (f36_runs e29).x ent36 J ⟨cv0,cv0,trivial⟩ J J J ?_)
   refine V vm<|V vx<|V vx<|O oa<|O os<|V va<|nl<|an<|sq<|?_
   obtain ⟨h30,hr⟩:=zAN hr
   refine zAa [0,1,5,15,16,17,18] [(true,.ptr 3 0),(true,.i x26.1.1),(true,.ptr 4 0),(true,.i x28.1.1),(true,.bool (decide (x26.1.1=x28.1.1))),(true,.bool (decide (x26.1.1=x28.1.1))),(decide (x26.1.1=x28.1.1),.ptr 3 1),(decide (x26.1.1=x28.1.1),.str x26.1.2.1),(decide (x26.1.1=x28.1.1),.ptr 4 1),(decide (x26.1.1=x28.1.1),.str x28.1.2.1),(decide (x26.1.1=x28.1.1),.bool (decide (x26.1.2.1=x28.1.2.1))),(true,.bool ((decide (x26.1.1=x28.1.1))&&(decide (x26.1.2.1=x28.1.2.1)))),(true,.bool ((decide (x26.1.1=x28.1.1))&&(decide (x26.1.2.1=x28.1.2.1)))),((decide (x26.1.1=x28.1.1))&&(decide (x26.1.2.1=x28.1.2.1)),.ptr 3 2),((decide (x26.1.1=x28.1.1))&&(decide (x26.1.2.1=x28.1.2.1)),.sl .i x26.1.2.2),((decide (x26.1.1=x28.1.1))&&(decide (x26.1.2.1=x28.1.2.1)),.ptr 4 2),((decide (x26.1.1=x28.1.1))&&(decide (x26.1.2.1=x28.1.2.1)),.sl .i x28.1.2.2),((decide (x26.1.1=x28.1.1))&&(decide (x26.1.2.1=x28.1.2.1)),.bool ((f21 x26.1.2.2 x28.1.2.2).getD default)),(true,.bool (((decide (x26.1.1=x28.1.1))&&(decide (x26.1.2.1=x28.1.2.1)))&&((f21 x26.1.2.2 x28.1.2.2).getD default))),(true,.bool (((decide (x26.1.1=x28.1.1))&&(decide (x26.1.2.1=x28.1.2.1)))&&((f21 x26.1.2.2 x28.1.2.2).getD default))),(((decide (x26.1.1=x28.1.1))&&(decide (x26.1.2.1=x28.1.2.1)))&&((f21 x26.1.2.2 x28.1.2.2).getD default),.i x26.2),(((decide (x26.1.1=x28.1.1))&&(decide (x26.1.2.1=x28.1.2.1)))&&((f21 x26.1.2.2 x28.1.2.2).getD default),.i x28.2),(((decide (x26.1.1=x28.1.1))&&(decide (x26.1.2.1=x28.1.2.1)))&&((f21 x26.1.2.2 x28.1.2.2).getD default),.bool (decide (x26.2=x28.2))),(true,.bool ((((decide (x26.1.1=x28.1.1))&&(decide (x26.1.2.1=x28.1.2.1)))&&((f21 x26.1.2.2 x28.1.2.2).getD default))&&(decide (x26.2=x28.2)))),(true,.bool ((((decide (x26.1.1=x28.1.1))&&(decide (x26.1.2.1=x28.1.2.1)))&&((f21 x26.1.2.2 x28.1.2.2).getD default))&&(decide (x26.2=x28.2))))] [[],[0],[],[2],[1,3],[4],[5],[6,5],[5],[8,5],[7,9,5],[10,5],[11],[12],[13,12],[12],[15,12],[14,16,12],[17,12],[18],[19],[19],[20,21,19],[22,19],[23]] [24] J J J J J ⟨oB wfp,oB wlp,oB wfp,oB wlp,oB weq,oB wm,oB wfp,oB wlp,oB wfp,oB wlp,oB wes,zBe,oB wm,oB wfp,oB wlp,oB wfp,oB wlp,zAr ⟨rfl,rfl,rfl,_,rfl,rfl⟩ (fun hg=>zAD ⟨hg,hg,rfl,trivial⟩) (fun hg=>zAV (zCI (zAz h30 hg)).x ent21 J J),zBe,oB wm,oB wm,oB wm,oB weq,zBe,oB wa,trivial⟩ (zAD ⟨rfl,trivial⟩) ?_
   obtain rfl:=Option.some.inj hr
   exact zAZ (zAw (zAE (zAC (zAe (l':=[(6,.bool ((((decide (x26.1.1=x28.1.1))&&(decide (x26.1.2.1=x28.1.2.1)))&&((f21 x26.1.2.2 x28.1.2.2).getD default))&&(decide (x26.2=x28.2))))]) (Hs:=[(0,.tr E76 (some p0_0)),(1,.tr E80 (some p1_0))]) (n:=2) (zAA hX [0,1] 4 J J wS wO) J J J ⟨rfl,trivial⟩))))
  refine sq<|rg<|V veq<|V va<|nl<|an<|?_
  refine cnd (fun hc31 hr=>?_) (fun hc31 hr=>?_)
  ·obtain ⟨x32,e33,hr⟩:=zA hr
   refine sq<|rg<|V vm<|V vfp<|V vlp<|V vfp<|V vlp<|V vfp<|V vlp<|?_
   refine zAG (zAd (i:=0) (W76 p0_0 3 4) [.map .i Y4 p0_0.2.1,.map .i Y5 p0_0.2.2.1] J J J J)<|?_
   refine zAK (zAp (as':=[.ptr 0 0,.i p2.2.1,.str p2.2.2.2.2.2.1,.str p2.2.2.2.2.2.2.1]) (f19_runs e33).x ent19 J ⟨cv0,cv0,cv0,cv0,trivial⟩ J J J ?_)
   obtain ⟨x34,e35,hr⟩:=zA hr
   refine V vm<|V vx<|V vx<|V va<|V va<|nl<|an<|sq<|rg<|V vm<|V vfp<|V vlp<|V vfp<|V vlp<|V vfp<|V vlp<|?_
   refine zAG (zAd (i:=1) [.sl Y2 p1_0.1,.osl 6,.osl 7,.i p1_0.2.2.2.1,.i p1_0.2.2.2.2] [.sl 54 Y4 p1_0.2.1,.sl 42 Y5 p1_0.2.2.1] J J J J)<|?_
   refine zAK (zAp (as':=[.ptr 1 0,.i p2.2.1,.str p2.2.2.2.2.2.1,.str p2.2.2.2.2.2.2.1]) (f37_runs e35).x ent37 J ⟨cv0,cv0,cv0,cv0,trivial⟩ J J J ?_)
   obtain ⟨x36,e37,hr⟩:=zA hr
   refine V vm<|V vx<|V vx<|V va<|V va<|nl<|an<|sq<|?_
   refine zAa [0,1,5,19,20,21,22] [(true,.osl 5),(true,.osl 8),(true,.bool x36),(true,.bool x36),(x36,.i x32.1),(x36,.i x34.1),(x36,.bool (decide (x32.1=x34.1))),(true,.bool (x36&&(decide (x32.1=x34.1)))),(true,.bool (x36&&(decide (x32.1=x34.1))))] [[],[],[0,1],[2],[3],[3],[4,5,3],[6,3],[7]] [8] J J J J J ⟨oB wm,oB wm,zAr J (fun hg=>zAD ⟨rfl,rfl,trivial⟩) (fun hg=>zAj (as':=[.osl 5,.osl 8]) (zCI e37).x ent21 J ⟨cv0,cv0,trivial⟩ J J),oB wm,oB wm,oB wm,oB weq,zBe,oB wa,trivial⟩ (zAD ⟨rfl,trivial⟩) ?_
   obtain rfl:=Option.some.inj hr
   exact zAZ (zAw (zAE (zAC (zAe (l':=[(6,.bool (x36&&(decide (x32.1=x34.1))))]) (Hs:=[(0,.tr E76 (some p0_0)),(1,.tr E80 (some p1_0))]) (n:=2) (Wk.trans (pk (i:=0) (e:=F76) (js:=[3,4]) p0_0) (Wk.trans (pk (i:=1) (e:=F80) (js:=[6,7]) p1_0) (zAA hX [0,1] 4 J J wS wO))) J J J ⟨rfl,trivial⟩))))
  refine sq<|rg<|V veq<|V va<|nl<|an<|?_
  refine cnd (fun hc38 hr=>?_) (fun hc38 hr=>?_)
  ·obtain ⟨x39,e40,hr⟩:=zA hr
   refine sq<|rg<|V vm<|V vfp<|V vlp<|V vfp<|V vlp<|V vfp<|V vlp<|V vfp<|V vlp<|?_
   refine zAG (zAd (i:=0) (W76 p0_0 3 4) [.map .i Y4 p0_0.2.1,.map .i Y5 p0_0.2.2.1] J J J J)<|?_
   refine zAK (zAp (as':=[.ptr 0 0,.i p2.2.1,.str p2.2.2.2.2.2.1,.str p2.2.2.2.2.2.2.1,.str p2.2.2.2.2.2.2.2.1]) (f38_runs e40).x ent38 J ⟨cv0,cv0,cv0,cv0,cv0,trivial⟩ J J J ?_)
   obtain ⟨x41,e42,hr⟩:=zA hr
   refine V vm<|V vx<|V vx<|V va<|V va<|nl<|an<|sq<|rg<|V vm<|V vfp<|V vlp<|V vfp<|V vlp<|V vfp<|V vlp<|V vfp<|V vlp<|?_
   refine zAG (zAd (i:=1) [.sl Y2 p1_0.1,.osl 6,.osl 7,.i p1_0.2.2.2.1,.i p1_0.2.2.2.2] [.sl 54 Y4 p1_0.2.1,.sl 42 Y5 p1_0.2.2.1] J J J J)<|?_
   refine zAK (zAp (as':=[.ptr 1 0,.i p2.2.1,.str p2.2.2.2.2.2.1,.str p2.2.2.2.2.2.2.1,.str p2.2.2.2.2.2.2.2.1]) (f39_runs e42).x ent39 J ⟨cv0,cv0,cv0,cv0,cv0,trivial⟩ J J J ?_)
   obtain ⟨x43,e44,hr⟩:=zA hr
   refine V vm<|V vx<|V vx<|V va<|V va<|nl<|an<|sq<|?_
   refine zAa [0,1,5,23,24,25,26] [(true,.osl 5),(true,.osl 8),(true,.bool x43),(true,.bool x43),(x43,.i x39.1),(x43,.i x41.1),(x43,.bool (decide (x39.1=x41.1))),(true,.bool (x43&&(decide (x39.1=x41.1)))),(true,.bool (x43&&(decide (x39.1=x41.1))))] [[],[],[0,1],[2],[3],[3],[4,5,3],[6,3],[7]] [8] J J J J J ⟨oB wm,oB wm,zAr J (fun hg=>zAD ⟨rfl,rfl,trivial⟩) (fun hg=>zAj (as':=[.osl 5,.osl 8]) (zCI e44).x ent21 J ⟨cv0,cv0,trivial⟩ J J),oB wm,oB wm,oB wm,oB weq,zBe,oB wa,trivial⟩ (zAD ⟨rfl,trivial⟩) ?_
   obtain rfl:=Option.some.inj hr
   exact zAZ (zAw (zAE (zAC (zAe (l':=[(6,.bool (x43&&(decide (x39.1=x41.1))))]) (Hs:=[(0,.tr E76 (some p0_0)),(1,.tr E80 (some p1_0))]) (n:=2) (Wk.trans (pk (i:=0) (e:=F76) (js:=[3,4]) p0_0) (Wk.trans (pk (i:=1) (e:=F80) (js:=[6,7]) p1_0) (zAA hX [0,1] 4 J J wS wO))) J J J ⟨rfl,trivial⟩))))
  refine sq<|rg<|V veq<|V va<|nl<|an<|?_
  refine cnd (fun hc45 hr=>?_) (fun hc45 hr=>?_)
  ·obtain ⟨x46,e47,hr⟩:=zA hr
   refine sq<|rg<|V vm<|V vfp<|V vlp<|V vfp<|V vlp<|?_
   refine zAK (zAP (σ:=[0]) (as':=[.ptr 0 0,.i p2.2.1,.i p2.2.2.2.1]) (f12_runs e47).x ent12 J ⟨cv0,cv0,cv0,trivial⟩ J J J ?_)
   obtain ⟨x48,e49,hr⟩:=zA hr
   refine V vm<|V vx<|V vx<|V vx<|V vx<|V va<|V va<|V va<|V va<|nl<|an<|sq<|rg<|V vm<|V vfp<|V vlp<|V vfp<|V vlp<|?_
   refine zAG (zAd (i:=1) [.sl Y2 p1_0.1,.osl 3,.osl 4,.i p1_0.2.2.2.1,.i p1_0.2.2.2.2] [.sl 54 Y4 p1_0.2.1,.sl 42 Y5 p1_0.2.2.1] J J J J)<|?_
   refine zAK (zAp (as':=[.ptr 1 0,.i p2.2.1,.i p2.2.2.2.1]) (f40_runs e49).x ent40 J ⟨cv0,cv0,cv0,trivial⟩ J J J ?_)
   obtain ⟨x50,e51,hr⟩:=zA hr
   refine V vm<|V vx<|V vx<|V vx<|V vx<|V va<|V va<|V va<|V va<|nl<|an<|sq<|?_
   obtain ⟨h52,hr⟩:=zAN hr
   obtain ⟨h53,hr⟩:=zAN hr
   refine zAa [0,1,5,27,28,29,30,31,32,33,34] [(true,.sl .i x46.1),(true,.osl 5),(true,.bool x50),(true,.bool x50),(x50,.sl .i x46.2.1),(x50,.osl 6),(x50,.bool ((f21 x46.2.1 x48.2.2.1).getD default)),(true,.bool (x50&&((f21 x46.2.1 x48.2.2.1).getD default))),(true,.bool (x50&&((f21 x46.2.1 x48.2.2.1).getD default))),(x50&&((f21 x46.2.1 x48.2.2.1).getD default),.sl .i x46.2.2.1),(x50&&((f21 x46.2.1 x48.2.2.1).getD default),.osl 7),(x50&&((f21 x46.2.1 x48.2.2.1).getD default),.bool ((f21 x46.2.2.1 x48.2.2.2).getD default)),(true,.bool ((x50&&((f21 x46.2.1 x48.2.2.1).getD default))&&((f21 x46.2.2.1 x48.2.2.2).getD default))),(true,.bool ((x50&&((f21 x46.2.1 x48.2.2.1).getD default))&&((f21 x46.2.2.1 x48.2.2.2).getD default))),((x50&&((f21 x46.2.1 x48.2.2.1).getD default))&&((f21 x46.2.2.1 x48.2.2.2).getD default),.i x46.2.2.2),((x50&&((f21 x46.2.1 x48.2.2.1).getD default))&&((f21 x46.2.2.1 x48.2.2.2).getD default),.i x48.1),((x50&&((f21 x46.2.1 x48.2.2.1).getD default))&&((f21 x46.2.2.1 x48.2.2.2).getD default),.bool (decide (x46.2.2.2=x48.1))),(true,.bool (((x50&&((f21 x46.2.1 x48.2.2.1).getD default))&&((f21 x46.2.2.1 x48.2.2.2).getD default))&&(decide (x46.2.2.2=x48.1)))),(true,.bool (((x50&&((f21 x46.2.1 x48.2.2.1).getD default))&&((f21 x46.2.2.1 x48.2.2.2).getD default))&&(decide (x46.2.2.2=x48.1))))] [[],[],[0,1],[2],[3],[3],[4,5,3],[6,3],[7],[8],[8],[9,10,8],[11,8],[12],[13],[13],[14,15,13],[16,13],[17]] [18] J J J J J ⟨oB wm,oB wm,zAr J (fun hg=>zAD ⟨rfl,rfl,trivial⟩) (fun hg=>zAj (as':=[.sl .i x46.1,.osl 5]) (zCI e51).x ent21 J ⟨cv0,cv0,trivial⟩ J J),oB wm,oB wm,oB wm,zAr ⟨rfl,rfl,rfl,_,rfl,rfl⟩ (fun hg=>zAD ⟨hg,hg,rfl,trivial⟩) (fun hg=>zAj (as':=[.sl .i x46.2.1,.osl 6]) (zCI (zAz h52 hg)).x ent21 J ⟨cv0,cv0,trivial⟩ J J),zBe,oB wm,oB wm,oB wm,zAr ⟨rfl,rfl,rfl,_,rfl,rfl⟩ (fun hg=>zAD ⟨hg,hg,rfl,trivial⟩) (fun hg=>zAj (as':=[.sl .i x46.2.2.1,.osl 7]) (zCI (zAz h53 hg)).x ent21 J ⟨cv0,cv0,trivial⟩ J J),zBe,oB wm,oB wm,oB wm,oB weq,zBe,oB wa,trivial⟩ (zAD ⟨rfl,trivial⟩) ?_
   obtain rfl:=Option.some.inj hr
   exact zAZ (zAw (zAE (zAC (zAe (l':=[(6,.bool (((x50&&((f21 x46.2.1 x48.2.2.1).getD default))&&((f21 x46.2.2.1 x48.2.2.2).getD default))&&(decide (x46.2.2.2=x48.1))))]) (Hs:=[(0,.tr E76 (some p0_0)),(1,.tr E80 (some p1_0))]) (n:=2) (Wk.trans (pk (i:=1) (e:=F80) (js:=[3,4]) p1_0) (zAA hX [0,1] 4 J J wS wO)) J J J ⟨rfl,trivial⟩))))
  refine sq<|rg<|V veq<|V va<|nl<|an<|?_
  refine cnd (fun hc54 hr=>?_) (fun hc54 hr=>?_)
  ·obtain ⟨x55,e56,hr⟩:=zA hr
   refine sq<|rg<|V vm<|V vfp<|V vlp<|V vfp<|V vlp<|?_
   refine zAK (zAP (σ:=[0]) (as':=[.ptr 0 0,.i p2.2.1,.i p2.2.2.1]) (f18_runs e56).x ent18 J ⟨cv0,cv0,cv0,trivial⟩ J J J ?_)
   obtain ⟨x57,e58,hr⟩:=zA hr
   refine V vm<|V vx<|V vx<|V vx<|V va<|V va<|V va<|nl<|an<|sq<|rg<|V vm<|V vfp<|V vlp<|V vfp<|V vlp<|?_
   refine zAK (zAP (σ:=[1]) (as':=[.ptr 1 0,.i p2.2.1,.i p2.2.2.1]) (f41_runs e58).x ent41 J ⟨cv0,cv0,cv0,trivial⟩ J J J ?_)
   obtain ⟨x59,e60,hr⟩:=zA hr
   refine V vm<|V vx<|V vx<|V vx<|V va<|V va<|V va<|nl<|an<|sq<|?_
   obtain ⟨h61,hr⟩:=zAN hr
   refine zAa [0,1,5,35,36,37,38,39,40] [(true,.sl Y6 x55.1),(true,.sl Y6 x57.1),(true,.bool x59),(true,.bool x59),(x59,.sl Y6 x55.2.1),(x59,.sl Y6 x57.2.1),(x59,.bool ((f42 x55.2.1 x57.2.1).getD default)),(true,.bool (x59&&((f42 x55.2.1 x57.2.1).getD default))),(true,.bool (x59&&((f42 x55.2.1 x57.2.1).getD default))),(x59&&((f42 x55.2.1 x57.2.1).getD default),.i x55.2.2.1),(x59&&((f42 x55.2.1 x57.2.1).getD default),.i x57.2.2.1),(x59&&((f42 x55.2.1 x57.2.1).getD default),.bool (decide (x55.2.2.1=x57.2.2.1))),(true,.bool ((x59&&((f42 x55.2.1 x57.2.1).getD default))&&(decide (x55.2.2.1=x57.2.2.1)))),(true,.bool ((x59&&((f42 x55.2.1 x57.2.1).getD default))&&(decide (x55.2.2.1=x57.2.2.1))))] [[],[],[0,1],[2],[3],[3],[4,5,3],[6,3],[7],[8],[8],[9,10,8],[11,8],[12]] [13] J J J J J ⟨oB wm,oB wm,zAr J (fun hg=>zAD ⟨rfl,rfl,trivial⟩) (fun hg=>zAV (f42_runs e60).x ent42 J J),oB wm,oB wm,oB wm,zAr ⟨rfl,rfl,rfl,_,rfl,rfl⟩ (fun hg=>zAD ⟨hg,hg,rfl,trivial⟩) (fun hg=>zAV (f42_runs (zAz h61 hg)).x ent42 J J),zBe,oB wm,oB wm,oB wm,oB weq,zBe,oB wa,trivial⟩ (zAD ⟨rfl,trivial⟩) ?_
   obtain rfl:=Option.some.inj hr
   exact zAZ (zAw (zAE (zAC (zAe (l':=[(6,.bool ((x59&&((f42 x55.2.1 x57.2.1).getD default))&&(decide (x55.2.2.1=x57.2.2.1))))]) (Hs:=[(0,.tr E76 (some x55.2.2.2)),(1,.tr E80 (some x57.2.2.2))]) (n:=2) (zAA hX [0,1] 4 J J wS wO) J J J ⟨rfl,trivial⟩))))
  refine sq<|rg<|V veq<|V va<|nl<|an<|?_
  refine cnd (fun hc62 hr=>?_) (fun hc62 hr=>?_)
  ·obtain ⟨x63,e64,hr⟩:=zA hr
   refine sq<|rg<|V vm<|V vfp<|V vlp<|V vfp<|V vlp<|?_
   refine zAK (zAP (σ:=[0]) (as':=[.ptr 0 0,.i p2.2.1,.i p2.2.2.1]) (f43_runs e64).x ent43 J ⟨cv0,cv0,cv0,trivial⟩ J J J ?_)
   obtain ⟨x65,e66,hr⟩:=zA hr
   refine V vm<|V vx<|V vx<|V va<|V va<|nl<|an<|sq<|rg<|V vm<|V vfp<|V vlp<|V vfp<|V vlp<|?_
   refine zAK (zAP (σ:=[1]) (as':=[.ptr 1 0,.i p2.2.1,.i p2.2.2.1]) (f44_runs e66).x ent44 J ⟨cv0,cv0,cv0,trivial⟩ J J J ?_)
   obtain ⟨x67,e68,hr⟩:=zA hr
   refine V vm<|V vx<|V vx<|V va<|V va<|nl<|an<|sq<|?_
   refine zAa [0,1,5,41,42,43,44] [(true,.sl .i x63.1),(true,.sl .i x65.1),(true,.bool x67),(true,.bool x67),(x67,.i x63.2.1),(x67,.i x65.2.1),(x67,.bool (decide (x63.2.1=x65.2.1))),(true,.bool (x67&&(decide (x63.2.1=x65.2.1)))),(true,.bool (x67&&(decide (x63.2.1=x65.2.1))))] [[],[],[0,1],[2],[3],[3],[4,5,3],[6,3],[7]] [8] J J J J J ⟨oB wm,oB wm,zAr J (fun hg=>zAD ⟨rfl,rfl,trivial⟩) (fun hg=>zAV (zCI e68).x ent21 J J),oB wm,oB wm,oB wm,oB weq,zBe,oB wa,trivial⟩ (zAD ⟨rfl,trivial⟩) ?_
   obtain rfl:=Option.some.inj hr
   exact zAZ (zAw (zAE (zAC (zAe (l':=[(6,.bool (x67&&(decide (x63.2.1=x65.2.1))))]) (Hs:=[(0,.tr E76 (some x63.2.2)),(1,.tr E80 (some x65.2.2))]) (n:=2) (zAA hX [0,1] 4 J J wS wO) J J J ⟨rfl,trivial⟩))))
  refine sq<|rg<|V veq<|V va<|nl<|an<|?_
  refine cnd (fun hc69 hr=>?_) (fun hc69 hr=>?_)
  ·obtain ⟨x70,e71,hr⟩:=zA hr
   refine sq<|rg<|V vm<|V vfp<|V vlp<|?_
   refine zAK (zAP (σ:=[0]) (as':=[.ptr 0 0,.i p2.2.1]) (f20_runs e71).x ent20 J ⟨cv0,cv0,trivial⟩ J J J ?_)
   obtain ⟨x72,e73,hr⟩:=zA hr
   refine V vm<|V vx<|V vx<|V vx<|V va<|V va<|V va<|nl<|an<|sq<|rg<|V vm<|V vfp<|V vlp<|?_
   refine zAK (zAP (σ:=[1]) (as':=[.ptr 1 0,.i p2.2.1]) (f45_runs e73).x ent45 J ⟨cv0,cv0,trivial⟩ J J J ?_)
   obtain ⟨x74,e75,hr⟩:=zA hr
   refine V vm<|V vx<|V vx<|V vx<|V va<|V va<|V va<|nl<|an<|sq<|?_
   obtain ⟨h76,hr⟩:=zAN hr
   refine zAa [0,1,5,45,46,47,48,49,50] [(true,.sl .i x70.1),(true,.sl .i x72.1),(true,.bool x74),(true,.bool x74),(x74,.sl .i x70.2.1),(x74,.sl .i x72.2.1),(x74,.bool ((f21 x70.2.1 x72.2.1).getD default)),(true,.bool (x74&&((f21 x70.2.1 x72.2.1).getD default))),(true,.bool (x74&&((f21 x70.2.1 x72.2.1).getD default))),(x74&&((f21 x70.2.1 x72.2.1).getD default),.i x70.2.2.1),(x74&&((f21 x70.2.1 x72.2.1).getD default),.i x72.2.2.1),(x74&&((f21 x70.2.1 x72.2.1).getD default),.bool (decide (x70.2.2.1=x72.2.2.1))),(true,.bool ((x74&&((f21 x70.2.1 x72.2.1).getD default))&&(decide (x70.2.2.1=x72.2.2.1)))),(true,.bool ((x74&&((f21 x70.2.1 x72.2.1).getD default))&&(decide (x70.2.2.1=x72.2.2.1))))] [[],[],[0,1],[2],[3],[3],[4,5,3],[6,3],[7],[8],[8],[9,10,8],[11,8],[12]] [13] J J J J J ⟨oB wm,oB wm,zAr J (fun hg=>zAD ⟨rfl,rfl,trivial⟩) (fun hg=>zAV (zCI e75).x ent21 J J),oB wm,oB wm,oB wm,zAr ⟨rfl,rfl,rfl,_,rfl,rfl⟩ (fun hg=>zAD ⟨hg,hg,rfl,trivial⟩) (fun hg=>zAV (zCI (zAz h76 hg)).x ent21 J J),zBe,oB wm,oB wm,oB wm,oB weq,zBe,oB wa,trivial⟩ (zAD ⟨rfl,trivial⟩) ?_
   obtain rfl:=Option.some.inj hr
   exact zAZ (zAw (zAE (zAC (zAe (l':=[(6,.bool ((x74&&((f21 x70.2.1 x72.2.1).getD default))&&(decide (x70.2.2.1=x72.2.2.1))))]) (Hs:=[(0,.tr E76 (some x70.2.2.2)),(1,.tr E80 (some x72.2.2.2))]) (n:=2) (zAA hX [0,1] 4 J J wS wO) J J J ⟨rfl,trivial⟩))))
  refine sq<|rg<|V veq<|V va<|nl<|an<|?_
  refine cnd (fun hc77 hr=>?_) (fun hc77 hr=>?_)
  ·obtain ⟨x78,e79,hr⟩:=zA hr
   refine sq<|rg<|V vm<|V vfp<|V vlp<|V vfp<|V vlp<|?_
   refine zAG (zAd (i:=0) (W76 p0_0 3 4) [.map .i Y4 p0_0.2.1,.map .i Y5 p0_0.2.2.1] J J J J)<|?_
   refine zAK (zAp (as':=[.ptr 0 0,.i p2.2.1,.i p2.2.2.2.1]) (f46_runs e79).x ent46 J ⟨cv0,cv0,cv0,trivial⟩ J J J ?_)
   obtain ⟨x80,e81,hr⟩:=zA hr
   refine V vm<|V vx<|V vx<|V va<|V va<|nl<|an<|sq<|rg<|V vm<|V vfp<|V vlp<|V vfp<|V vlp<|?_
   refine zAG (zAd (i:=1) [.sl Y2 p1_0.1,.osl 6,.osl 7,.i p1_0.2.2.2.1,.i p1_0.2.2.2.2] [.sl 54 Y4 p1_0.2.1,.sl 42 Y5 p1_0.2.2.1] J J J J)<|?_
   refine zAK (zAp (as':=[.ptr 1 0,.i p2.2.1,.i p2.2.2.2.1]) (f47_runs e81).x ent47 J ⟨cv0,cv0,cv0,trivial⟩ J J J ?_)
   obtain ⟨x82,e83,hr⟩:=zA hr
   refine V vm<|V vx<|V vx<|V va<|V va<|nl<|an<|sq<|?_
   refine zAa [0,1,5,51,52,53,54] [(true,.osl 5),(true,.osl 8),(true,.bool x82),(true,.bool x82),(x82,.i x78.1),(x82,.i x80.1),(x82,.bool (decide (x78.1=x80.1))),(true,.bool (x82&&(decide (x78.1=x80.1)))),(true,.bool (x82&&(decide (x78.1=x80.1))))] [[],[],[0,1],[2],[3],[3],[4,5,3],[6,3],[7]] [8] J J J J J ⟨oB wm,oB wm,zAr J (fun hg=>zAD ⟨rfl,rfl,trivial⟩) (fun hg=>zAj (as':=[.osl 5,.osl 8]) (zCI e83).x ent21 J ⟨cv0,cv0,trivial⟩ J J),oB wm,oB wm,oB wm,oB weq,zBe,oB wa,trivial⟩ (zAD ⟨rfl,trivial⟩) ?_
   obtain rfl:=Option.some.inj hr
   exact zAZ (zAw (zAE (zAC (zAe (l':=[(6,.bool (x82&&(decide (x78.1=x80.1))))]) (Hs:=[(0,.tr E76 (some p0_0)),(1,.tr E80 (some p1_0))]) (n:=2) (Wk.trans (pk (i:=0) (e:=F76) (js:=[3,4]) p0_0) (Wk.trans (pk (i:=1) (e:=F80) (js:=[6,7]) p1_0) (zAA hX [0,1] 4 J J wS wO))) J J J ⟨rfl,trivial⟩))))
  obtain ⟨x84,e85,hr⟩:=zA hr
  refine sk<|bn<|an<|sq<|rg<|V vm<|V vfp<|V vlp<|V vfp<|V vlp<|?_
  refine zAK (zAP (σ:=[0]) (as':=[.ptr 0 0,.i p2.2.2.1,.str p2.2.2.2.2.1]) (f23_runs e85).x ent23 J ⟨cv0,cv0,cv0,trivial⟩ J J J ?_)
  obtain ⟨x86,e87,hr⟩:=zA hr
  refine V vm<|V vx<|V vx<|V va<|V va<|nl<|an<|sq<|rg<|V vm<|V vfp<|V vlp<|V vfp<|V vlp<|?_
  refine zAK (zAP (σ:=[1]) (as':=[.ptr 1 0,.i p2.2.2.1,.str p2.2.2.2.2.1]) (f48_runs e87).x ent48 J ⟨cv0,cv0,cv0,trivial⟩ J J J ?_)
  refine V vm<|V vx<|V vx<|V va<|V va<|nl<|an<|sq<|?_
  refine zAa [55,56,57,58] [(true,.i x84.1),(true,.i x86.1),(true,.bool (decide (x84.1=x86.1))),(true,.bool (decide (x84.1=x86.1))),(decide (x84.1=x86.1),.i x84.2.1),(decide (x84.1=x86.1),.i x86.2.1),(decide (x84.1=x86.1),.bool (decide (x84.2.1=x86.2.1))),(true,.bool ((decide (x84.1=x86.1))&&(decide (x84.2.1=x86.2.1)))),(true,.bool ((decide (x84.1=x86.1))&&(decide (x84.2.1=x86.2.1))))] [[],[],[0,1],[2],[3],[3],[4,5,3],[6,3],[7]] [8] J J J J J ⟨oB wm,oB wm,oB weq,oB wm,oB wm,oB wm,oB weq,zBe,oB wa,trivial⟩ (zAD ⟨rfl,trivial⟩) ?_
  obtain rfl:=Option.some.inj hr
  exact zAZ (zAw (zAe (l':=[(6,.bool ((decide (x84.1=x86.1))&&(decide (x84.2.1=x86.2.1))))]) (Hs:=[(0,.tr E76 (some x84.2.2)),(1,.tr E80 (some x86.2.2))]) (n:=2) (zAA hX [0,1] 4 J J wS wO) J J J ⟨rfl,trivial⟩))
 exact fun r h e st hne hx=>hx.elim
theorem ent6 : Enters Tryz.prog 6:=enters_of Tryz.func6 (by kernel_rfl) rfl
theorem ent7 : Enters Tryz.prog 7:=enters_of Tryz.func7 (by kernel_rfl) rfl
theorem ent9 : Enters Tryz.prog 9:=enters_of Tryz.func9 (by kernel_rfl) rfl
theorem ent10 : Enters Tryz.prog 10:=enters_of Tryz.func10 (by kernel_rfl) rfl
theorem ent11 : Enters Tryz.prog 11:=enters_of Tryz.func11 (by kernel_rfl) rfl
theorem ent56 : Enters Tryz.prog 56:=enters_of Tryz.func56 (by kernel_rfl) rfl
theorem ent16 : Enters Tryz.prog 16:=enters_of Tryz.func16 (by kernel_rfl) rfl
theorem f16_runs {p0:ZW}{r:List Int}(hr:f16 p0=some r) : Runs Tryz.prog 16 [.rp (D76 p0)] [] (fun q Hq=>q=[.osl 0]∧Hq=[.sl 3 .i r]):=by
 refine zAW Tryz.func16 Tryz.ntmps16 J (rs:=[.tmp 2]) J J fun w0 X hX=>?_
 obtain ⟨x2,e3,hr⟩:=zA hr
 refine sq<|rg<|V va<|nl<|an<|sq<|sq<|rg<|V vm<|?_
 refine V (zCj (undX 26 J) J J)<|nl<|an<|?_
 refine zA3 rfl<|sk<|an<|sq<|rg<|V vm<|V vnr<|V vfr<|V vlr<|?_
 refine zAK (zAP (σ:=[]) (as':=[.dm .i Y4 p0.2.1]) (f56_runs e3).x ent56 J ⟨cv0,trivial⟩ J J J ?_)
 obtain ⟨x4,e5,hr⟩:=zA hr
 refine zAK (zAP (σ:=[0]) (as':=[.fn 102 [] [.ptr 0 0]]) (f53_102_runs e5).x ent53 J ⟨cv0,trivial⟩ J J J ?_)
 refine V va<|?_
 obtain rfl:=Option.some.inj hr
 exact nl<|an<|cr<|zAe (l':=[(2,.osl 0)]) (Hs:=[(0,.sl 3 .i x4)]) (n:=1) (zAA hX [1] 4 J J wS wO) J J J ⟨rfl,trivial⟩
theorem f5_runs {p0:List (ZS)}{p1:List (ZA)}{p2:Int}{r:Bool}(hr:f5 p0 p1 p2=some r) : zBb Tryz.prog 5 [.sl Y2 p0,.sl Y3 p1,.i p2] [.bool r]:=by
 refine zAW Tryz.func5 Tryz.ntmps5 J (rs:=[.tmp 6]) J J fun w0 X hX=>?_
 obtain ⟨x1,e2,hr⟩:=zA hr
 refine sq<|rg<|V va<|nl<|an<|sq<|sq<|rg<|V vm<|V vm<|?_
 refine V (zAV (f6_runs e2).x ent6 J J)<|V vno<|nl<|an<|?_
 refine cnd (fun hc3 hr=>?_) (fun hc3 hr=>?_)
 ·obtain ⟨x4,e5,hr⟩:=zA hr
  refine sq<|rg<|V (zAV (zCg e5).x ent7 J J)<|V va<|?_
  obtain rfl:=Option.some.inj hr
  exact nl<|an<|cr<|zAC (zAk (l':=[(6,.bool x4)]) (zAA hX [] 4 J J wS trivial) J ⟨rfl,trivial⟩)
 obtain ⟨x6,e7,hr⟩:=zA hr
 refine sk<|an<|sq<|rg<|V vm<|?_
 refine zAK (zAP (σ:=[]) (as':=[.sl Y2 p0]) (f8_runs e7).x ent8 J ⟨cv0,trivial⟩ J J J ?_)
 obtain ⟨x8,e9,hr⟩:=zA hr
 refine V vm<|V vx<|V vx<|V va<|V va<|nl<|an<|sq<|rg<|V vm<|?_
 refine zAK (zAP (σ:=[]) (as':=[.sl Y2 p0]) (f9_runs e9).x ent9 J ⟨cv0,trivial⟩ J J J ?_)
 refine zAG (zAA (st':=⟨[(0,.sl Y2 p0),(1,.sl Y3 p1),(2,.i p2),(6,.bool false),(7,.map 0),(8,.i x6.1),(37,.sl Y2 p0),(38,.tup [.map 1,.i x8.1])],[(0,.tr E76 x6.2),(1,.tr E80 x8.2)],2⟩) hX [0,1] 4 J J wS wO)<|V vm<|V vx<|V vx<|V va<|V va<|nl<|an<|sq<|sq<|rg<|V vm<|V vne<|nl<|an<|?_
 refine cnd (fun hc10 hr=>?_) (fun hc10 hr=>?_)
 ·obtain ⟨x11,e12,hr⟩:=zA hr
  refine sq<|rg<|V (zAV (zCg e12).x ent7 J J)<|V va<|?_
  obtain rfl:=Option.some.inj hr
  exact nl<|an<|cr<|zAC (zAk (l':=[(6,.bool x11)]) (zAA hX [] 4 J J wS trivial) J ⟨rfl,trivial⟩)
 obtain ⟨o22,e23,hr⟩:=zA hr
 refine sk<|an<|sq<|sq<|rg<|V vm<|V vnl<|V vm<|nl<|an<|bl<|?_
 refine zAb (t:=1) J (fun hl=>?_)
 refine zAI (S:=(Option (ZW))×(Option (ZR))) (R:=(Option (ZW))) (List.length p1 : Int) (f5_b0 p1) (fun p=>match p with | (i13,s15,s16)=>(⟨[(2,.i p2),(6,.bool false),(7,.map 0),(9,.map 1),(44,.sl Y3 p1),(45,.i (List.length p1 : Int)),(46,.i i13)],[(0,.tr E76 s15),(1,.tr E80 s16)],2⟩ : AS)) (fun o e st=>match o with | .inl (s15,s16)=>e=.exit 0∧Wk X st ⟨[(2,.i p2),(6,.bool false),(7,.map 0)],[(0,.tr E76 s15)],1⟩ | .inr s20=>e=.exit 0∧Wk X st ⟨[(2,.i p2),(6,.bool false),(7,.map 0)],[(0,.tr E76 s20)],1⟩) (zAf hl) e23 (by exact zAA hX [0,1] 4 J J wS wO) ?_ ?_
 ·intro e st hx
  rcases o22 with ⟨s15,s16⟩ | s20
  ·obtain ⟨rfl,hw⟩:=hx
   obtain ⟨x24,e25,hr⟩:=zA hr
   obtain ⟨x26,e27,hr⟩:=zA hr
   refine bh<|an<|(zAY hw)<|sq<|rg<|V vm<|V vm<|?_
   refine zAG (zA9 (t:=58) (i:=0) (T:=76) (e:=F76) (x:=x24) e25 J J)<|?_
   refine zAK (zAP (σ:=[0]) (as':=[.ptr 0 0,.i p2,.i 3]) (f12_runs e27).x ent12 J ⟨cv0,cv0,cv0,trivial⟩ J J J ?_)
   obtain ⟨x28,e29,hr⟩:=zA hr
   refine zAG (zAA (st':=⟨[(2,.i p2),(6,.bool false),(7,.map 0),(58,.ptr 0 0),(59,.i p2),(60,.tup [.sl .i x26.1,.sl .i x26.2.1,.sl .i x26.2.2.1,.i x26.2.2.2])],[(0,.tr E76 (some x24))],1⟩) hX [0] 4 J J wS wO)<|V vm<|V vx<|V vx<|V vx<|V vx<|V va<|V va<|V va<|V va<|nl<|an<|sq<|rg<|V vm<|V vm<|?_
   refine zAG (zA9 (t:=66) (i:=0) (T:=76) (e:=F76) (x:=x24) J J J)<|?_
   refine zAK (zAP (σ:=[0]) (as':=[.ptr 0 0,.i p2]) (f20_runs e29).x ent20 J ⟨cv0,cv0,trivial⟩ J J J ?_)
   refine V vm<|V vx<|V vx<|V vx<|V va<|V va<|V va<|nl<|an<|sq<|sq<|?_
   obtain ⟨h30,hr⟩:=zAN hr
   refine zAa [6,7,13,8,16,18] [(true,.i x26.2.2.2),(true,.i x28.2.2.1),(true,.bool (!decide (x26.2.2.2=x28.2.2.1))),(true,.bool (!decide (x26.2.2.2=x28.2.2.1))),(!(!decide (x26.2.2.2=x28.2.2.1)),.sl .i x26.1),(!(!decide (x26.2.2.2=x28.2.2.1)),.sl .i x28.1),(!(!decide (x26.2.2.2=x28.2.2.1)),.bool ((f21 x26.1 x28.1).getD default)),(!(!decide (x26.2.2.2=x28.2.2.1)),.bool (!((f21 x26.1 x28.1).getD default))),(true,.bool ((!decide (x26.2.2.2=x28.2.2.1))||(!((f21 x26.1 x28.1).getD default))))] [[],[],[0,1],[2],[3],[3],[4,5,3],[6,3],[7,3]] [8] J J J J J ⟨oB wm,oB wm,oB wne,oB wm,oB wm,oB wm,zAr ⟨rfl,rfl,rfl,_,rfl,rfl⟩ (fun hg=>zAD ⟨hg,hg,rfl,trivial⟩) (fun hg=>zAV (zCI (zAz h30 hg)).x ent21 J J),oB wno,zBr,trivial⟩ (zAD ⟨rfl,trivial⟩) ?_
   refine an<|?_
   refine cnd (fun hc31 hr=>?_) (fun hc31 hr=>?_)
   ·refine sq<|rg<|V va<|?_
    obtain rfl:=Option.some.inj hr
    exact nl<|an<|cr<|zAC (zAk (l':=[(6,.bool false)]) (zAA hX [] 4 J J wS trivial) J ⟨rfl,trivial⟩)
   obtain ⟨x32,e33,hr⟩:=zA hr
   refine sk<|an<|sq<|rg<|V vm<|?_
   refine zAG (zA9 (t:=81) (i:=0) (T:=76) (e:=F76) (x:=x28.2.2.2) J J J)<|zAG (zAd (i:=0) [.sl Y2 x28.2.2.2.1,.map 1,.map 2,.i x28.2.2.2.2.2.2.1,.i x28.2.2.2.2.2.2.2] [.map .i Y4 x28.2.2.2.2.1,.map .i Y5 x28.2.2.2.2.2.1] J J J J)<|?_
   refine zAK (zAp (as':=[.ptr 0 0]) (f16_runs e33).x ent16 J ⟨cv0,trivial⟩ J J J ?_)
   obtain ⟨x34,e35,hr⟩:=zA hr
   refine zAG (zAA (st':=⟨[(6,.bool false),(7,.map 0),(16,.sl .i x28.1),(81,.ptr 0 0),(82,.osl 3)],[(0,.var 76 [.sl Y2 x28.2.2.2.1,.map 1,.map 2,.i x28.2.2.2.2.2.2.1,.i x28.2.2.2.2.2.2.2]),(1,.map .i Y4 x28.2.2.2.2.1),(2,.map .i Y5 x28.2.2.2.2.2.1),(3,.sl 3 .i x32)],4⟩) hX [0,1,2,3] 4 J J wS wO)<|V va<|nl<|an<|sq<|sq<|rg<|?_
   refine zAG (wk_trvar (t:=7) (i:=0) J J)<|V vm<|?_
   refine zAK (zAp (as':=[.ptr 0 0]) (f13_runs e35).x ent13 J ⟨cv0,trivial⟩ J J J ?_)
   obtain ⟨o38,e39,hr⟩:=zA hr
   refine V vnL<|V vm<|nl<|an<|bl<|?_
   refine zA5 (i:=4) J J (fun hl=>?_)
   refine zAI (List.length x34 : Int) (f5_b1 x28 x32 x34) (fun p=>match p with | (i36,())=>(⟨[(6,.bool false),(7,.ptr 0 0),(16,.sl .i x28.1),(19,.osl 1),(84,.osl 2),(85,.i (List.length x34 : Int)),(86,.i i36)],[(0,.tr E76 (some x28.2.2.2)),(1,.sl 3 .i x32),(2,.sl 3 .i x34)],3⟩ : AS)) (fun o e st=>match o with | .inl ()=>e=.exit 2∧Wk X st ⟨[(6,.bool false)],[],0⟩ | .inr ()=>e=.ret∧Wk X st ⟨[(6,.bool false)],[],0⟩) (zAf hl) e39 (Wk.trans (pk (i:=0) (e:=F76) (js:=[1,2]) x28.2.2.2) (by exact zAA hX [0,3,4] 4 J J wS wO)) ?_ ?_
   ·intro e st hx
    rcases o38 with _ | _
    ·obtain ⟨rfl,hw⟩:=hx
     obtain ⟨x40,e41,hr⟩:=zA hr
     refine bh<|an<|(zAY hw)<|sq<|rg<|zAG (zAA (st':=⟨[(6,.bool false)],[],0⟩) hX [] 4 J J wS trivial)<|V (zAV (zCg e41).x ent7 J J)<|V va<|?_
     obtain rfl:=Option.some.inj hr
     exact nl<|an<|cr<|zAk (l':=[(6,.bool x40)]) (zAA hX [] 4 J J wS trivial) J ⟨rfl,trivial⟩
    obtain ⟨rfl,hw⟩:=hx
    obtain rfl:=Option.some.inj hr
    exact zAE (zAC (zAk (l':=[(6,.bool false)]) (Wk.trans hw (zAA hX [] 4 J J wS trivial)) J ⟨rfl,trivial⟩))
   rintro i36 _ o ho
   refine sq<|rg<|V vls<|nl<|an<|sq<|?_
   refine zAO (b:=decide (i36 < (List.length x34 : Int))) J (fun hc42=>?_) (fun hc42=>?_)
   ·obtain ⟨q,hr,rfl⟩:=zA7 hc42 ho
    obtain ⟨x43,e44,hr⟩:=zA hr
    obtain ⟨x45,e46,hr⟩:=zA hr
    refine sk<|an<|sq<|bl<|sq<|rg<|V (zAn (t:=.i) (undX 33 J) (szX 3 J) J J J e44)<|?_
    refine V (zAu (tsX 3 J) J J J (zCM e44) J)<|V va<|nl<|an<|sq<|rg<|V vm<|V vm<|?_
    refine zAK (zAP (σ:=[0]) (as':=[.ptr 0 0,.i x43]) (f14_runs e46).x ent14 J ⟨cv0,cv0,trivial⟩ J J J ?_)
    refine V vm<|V vx<|V vx<|O oa<|O os<|V va<|nl<|an<|sq<|sq<|rg<|V vm<|V vne<|nl<|an<|?_
    refine cnd (fun hc47 hr=>?_) (fun hc47 hr=>?_)
    ·refine sq<|rg<|V va<|?_
     obtain rfl:=Option.some.inj hr
     exact nl<|an<|cr<|zAC (zAE (zAC (⟨rfl,(zAA hX [] 4 J J wS trivial)⟩)))
    obtain ⟨o50,e51,hr⟩:=zA hr
    refine sk<|an<|sq<|rg<|V vfp<|V vlp<|V vnl<|V vm<|nl<|an<|bl<|?_
    refine zAb (t:=99) J (fun hl=>?_)
    refine zAI (List.length x45.1.2.2 : Int) (f5_b2 x28 x32 x45) (fun p=>match p with | (i48,())=>(⟨[(6,.bool false),(7,.ptr 0 0),(16,.sl .i x28.1),(19,.osl 1),(84,.osl 2),(85,.i (List.length x34 : Int)),(86,.i i36),(99,.sl .i x45.1.2.2),(100,.i (List.length x45.1.2.2 : Int)),(101,.i i48)],[(0,.tr E76 (some x28.2.2.2)),(1,.sl 3 .i x32),(2,.sl 3 .i x34)],3⟩ : AS)) (fun o e st=>match o with | .inl ()=>e=.exit 4∧Wk X st ⟨[(6,.bool false),(7,.ptr 0 0),(16,.sl .i x28.1),(19,.osl 1),(84,.osl 2),(85,.i (List.length x34 : Int)),(86,.i i36)],[(0,.tr E76 (some x28.2.2.2)),(1,.sl 3 .i x32),(2,.sl 3 .i x34)],3⟩ | .inr ()=>e=.ret∧Wk X st ⟨[(6,.bool false)],[],0⟩) (zAf hl) e51 (by exact zAA hX [0,1,2] 4 J J wS wO) ?_ ?_
    ·intro e st hx
     rcases o50 with _ | _
     ·obtain ⟨rfl,hw⟩:=hx
      refine bh<|bn<|an<|(zAY hw)<|rg<|V vad<|V vm<|?_
      obtain rfl:=Option.some.inj hr
      exact zAJ ((zAA hX [0,1,2] 4 J J wS wO))
     obtain ⟨rfl,hw⟩:=hx
     obtain rfl:=Option.some.inj hr
     exact zAE (zAE (zAC (⟨rfl,(Wk.trans hw (zAA hX [] 4 J J wS trivial))⟩)))
    rintro i48 _ o ho
    refine sq<|rg<|V vls<|nl<|an<|sq<|?_
    refine zAO (b:=decide (i48 < (List.length x45.1.2.2 : Int))) J (fun hc52=>?_) (fun hc52=>?_)
    ·obtain ⟨q,hr,rfl⟩:=zA7 hc52 ho
     obtain ⟨x53,e54,hr⟩:=zA hr
     obtain ⟨x55,e56,hr⟩:=zA hr
     refine sk<|an<|sq<|bl<|sq<|rg<|V (zAQ (t:=.i) (e:=x53) (undX 33 J) (szX 3 J) J J e54)<|V vlr<|V va<|nl<|an<|sq<|?_
     obtain ⟨h57,hr⟩:=zAN hr
     refine zAa [6,7,16,19,84,85,86,99,100,101,25] [(true,.osl 1),(true,.i x53),(true,.bool x55),(true,.bool (!x55)),(true,.bool (!x55)),(!(!x55),.sl .i x28.1),(!(!x55),.i x53),(!(!x55),.bool ((f15 x28.1 x53).getD default)),(true,.bool ((!x55)||((f15 x28.1 x53).getD default)))] [[],[],[0,1],[2],[3],[4],[4],[5,6,4],[7,4]] [8] J J J J J ⟨oB wm,oB wm,zAr J (fun hg=>zAD ⟨rfl,rfl,trivial⟩) (fun hg=>zAj (as':=[.osl 1,.i x53]) (zBY e56).x zB9 J ⟨cv0,cv0,trivial⟩ J J),oB wno,oB wm,oB wm,oB wm,zAr ⟨rfl,rfl,rfl,_,rfl,rfl⟩ (fun hg=>zAD ⟨hg,hg,rfl,trivial⟩) (fun hg=>zAV (zBY (zAz h57 hg)).x zB9 J J),zBr,trivial⟩ (zAD ⟨rfl,trivial⟩) ?_
     refine an<|?_
     refine cnd (fun hc58 hr=>?_) (fun hc58 hr=>?_)
     ·refine sq<|rg<|V va<|?_
      obtain rfl:=Option.some.inj hr
      exact nl<|an<|cr<|zAE (zAC (⟨rfl,(zAA hX [] 4 J J wS trivial)⟩))
     refine sk<|bn<|an<|rg<|V vad<|V vm<|?_
     obtain rfl:=Option.some.inj hr
     exact zAJ ((zAA hX [0,1,2] 4 J J wS wO))
    obtain rfl:=zA8 hc52 ho
    exact zAH (zAF (⟨rfl,(zAA hX [0,1,2] 4 J J wS wO)⟩))
   obtain rfl:=zA8 hc42 ho
   exact zAH (zAF (⟨rfl,(zAA hX [] 4 J J wS trivial)⟩))
  obtain ⟨rfl,hw⟩:=hx
  obtain ⟨x59,e60,hr⟩:=zA hr
  obtain ⟨x61,e62,hr⟩:=zA hr
  refine bh<|an<|(zAY hw)<|sq<|rg<|V vm<|V vm<|?_
  refine zAG (zA9 (t:=58) (i:=0) (T:=76) (e:=F76) (x:=x59) e60 J J)<|?_
  refine zAK (zAP (σ:=[0]) (as':=[.ptr 0 0,.i p2,.i 3]) (f12_runs e62).x ent12 J ⟨cv0,cv0,cv0,trivial⟩ J J J ?_)
  obtain ⟨x63,e64,hr⟩:=zA hr
  refine zAG (zAA (st':=⟨[(2,.i p2),(6,.bool false),(7,.map 0),(58,.ptr 0 0),(59,.i p2),(60,.tup [.sl .i x61.1,.sl .i x61.2.1,.sl .i x61.2.2.1,.i x61.2.2.2])],[(0,.tr E76 (some x59))],1⟩) hX [0] 4 J J wS wO)<|V vm<|V vx<|V vx<|V vx<|V vx<|V va<|V va<|V va<|V va<|nl<|an<|sq<|rg<|V vm<|V vm<|?_
  refine zAG (zA9 (t:=66) (i:=0) (T:=76) (e:=F76) (x:=x59) J J J)<|?_
  refine zAK (zAP (σ:=[0]) (as':=[.ptr 0 0,.i p2]) (f20_runs e64).x ent20 J ⟨cv0,cv0,trivial⟩ J J J ?_)
  refine V vm<|V vx<|V vx<|V vx<|V va<|V va<|V va<|nl<|an<|sq<|sq<|?_
  obtain ⟨h65,hr⟩:=zAN hr
  refine zAa [6,7,13,8,16,18] [(true,.i x61.2.2.2),(true,.i x63.2.2.1),(true,.bool (!decide (x61.2.2.2=x63.2.2.1))),(true,.bool (!decide (x61.2.2.2=x63.2.2.1))),(!(!decide (x61.2.2.2=x63.2.2.1)),.sl .i x61.1),(!(!decide (x61.2.2.2=x63.2.2.1)),.sl .i x63.1),(!(!decide (x61.2.2.2=x63.2.2.1)),.bool ((f21 x61.1 x63.1).getD default)),(!(!decide (x61.2.2.2=x63.2.2.1)),.bool (!((f21 x61.1 x63.1).getD default))),(true,.bool ((!decide (x61.2.2.2=x63.2.2.1))||(!((f21 x61.1 x63.1).getD default))))] [[],[],[0,1],[2],[3],[3],[4,5,3],[6,3],[7,3]] [8] J J J J J ⟨oB wm,oB wm,oB wne,oB wm,oB wm,oB wm,zAr ⟨rfl,rfl,rfl,_,rfl,rfl⟩ (fun hg=>zAD ⟨hg,hg,rfl,trivial⟩) (fun hg=>zAV (zCI (zAz h65 hg)).x ent21 J J),oB wno,zBr,trivial⟩ (zAD ⟨rfl,trivial⟩) ?_
  refine an<|?_
  refine cnd (fun hc66 hr=>?_) (fun hc66 hr=>?_)
  ·refine sq<|rg<|V va<|?_
   obtain rfl:=Option.some.inj hr
   exact nl<|an<|cr<|zAC (zAk (l':=[(6,.bool false)]) (zAA hX [] 4 J J wS trivial) J ⟨rfl,trivial⟩)
  obtain ⟨x67,e68,hr⟩:=zA hr
  refine sk<|an<|sq<|rg<|V vm<|?_
  refine zAG (zA9 (t:=81) (i:=0) (T:=76) (e:=F76) (x:=x63.2.2.2) J J J)<|zAG (zAd (i:=0) [.sl Y2 x63.2.2.2.1,.map 1,.map 2,.i x63.2.2.2.2.2.2.1,.i x63.2.2.2.2.2.2.2] [.map .i Y4 x63.2.2.2.2.1,.map .i Y5 x63.2.2.2.2.2.1] J J J J)<|?_
  refine zAK (zAp (as':=[.ptr 0 0]) (f16_runs e68).x ent16 J ⟨cv0,trivial⟩ J J J ?_)
  obtain ⟨x69,e70,hr⟩:=zA hr
  refine zAG (zAA (st':=⟨[(6,.bool false),(7,.map 0),(16,.sl .i x63.1),(81,.ptr 0 0),(82,.osl 3)],[(0,.var 76 [.sl Y2 x63.2.2.2.1,.map 1,.map 2,.i x63.2.2.2.2.2.2.1,.i x63.2.2.2.2.2.2.2]),(1,.map .i Y4 x63.2.2.2.2.1),(2,.map .i Y5 x63.2.2.2.2.2.1),(3,.sl 3 .i x67)],4⟩) hX [0,1,2,3] 4 J J wS wO)<|V va<|nl<|an<|sq<|sq<|rg<|?_
  refine zAG (wk_trvar (t:=7) (i:=0) J J)<|V vm<|?_
  refine zAK (zAp (as':=[.ptr 0 0]) (f13_runs e70).x ent13 J ⟨cv0,trivial⟩ J J J ?_)
  obtain ⟨o73,e74,hr⟩:=zA hr
  refine V vnL<|V vm<|nl<|an<|bl<|?_
  refine zA5 (i:=4) J J (fun hl=>?_)
  refine zAI (List.length x69 : Int) (f5_b3 x63 x67 x69) (fun p=>match p with | (i71,())=>(⟨[(6,.bool false),(7,.ptr 0 0),(16,.sl .i x63.1),(19,.osl 1),(84,.osl 2),(85,.i (List.length x69 : Int)),(86,.i i71)],[(0,.tr E76 (some x63.2.2.2)),(1,.sl 3 .i x67),(2,.sl 3 .i x69)],3⟩ : AS)) (fun o e st=>match o with | .inl ()=>e=.exit 2∧Wk X st ⟨[(6,.bool false)],[],0⟩ | .inr ()=>e=.ret∧Wk X st ⟨[(6,.bool false)],[],0⟩) (zAf hl) e74 (Wk.trans (pk (i:=0) (e:=F76) (js:=[1,2]) x63.2.2.2) (by exact zAA hX [0,3,4] 4 J J wS wO)) ?_ ?_
  ·intro e st hx
   rcases o73 with _ | _
   ·obtain ⟨rfl,hw⟩:=hx
    obtain ⟨x75,e76,hr⟩:=zA hr
    refine bh<|an<|(zAY hw)<|sq<|rg<|zAG (zAA (st':=⟨[(6,.bool false)],[],0⟩) hX [] 4 J J wS trivial)<|V (zAV (zCg e76).x ent7 J J)<|V va<|?_
    obtain rfl:=Option.some.inj hr
    exact nl<|an<|cr<|zAk (l':=[(6,.bool x75)]) (zAA hX [] 4 J J wS trivial) J ⟨rfl,trivial⟩
   obtain ⟨rfl,hw⟩:=hx
   obtain rfl:=Option.some.inj hr
   exact zAE (zAC (zAk (l':=[(6,.bool false)]) (Wk.trans hw (zAA hX [] 4 J J wS trivial)) J ⟨rfl,trivial⟩))
  rintro i71 _ o ho
  refine sq<|rg<|V vls<|nl<|an<|sq<|?_
  refine zAO (b:=decide (i71 < (List.length x69 : Int))) J (fun hc77=>?_) (fun hc77=>?_)
  ·obtain ⟨q,hr,rfl⟩:=zA7 hc77 ho
   obtain ⟨x78,e79,hr⟩:=zA hr
   obtain ⟨x80,e81,hr⟩:=zA hr
   refine sk<|an<|sq<|bl<|sq<|rg<|V (zAn (t:=.i) (undX 33 J) (szX 3 J) J J J e79)<|?_
   refine V (zAu (tsX 3 J) J J J (zCM e79) J)<|V va<|nl<|an<|sq<|rg<|V vm<|V vm<|?_
   refine zAK (zAP (σ:=[0]) (as':=[.ptr 0 0,.i x78]) (f14_runs e81).x ent14 J ⟨cv0,cv0,trivial⟩ J J J ?_)
   refine V vm<|V vx<|V vx<|O oa<|O os<|V va<|nl<|an<|sq<|sq<|rg<|V vm<|V vne<|nl<|an<|?_
   refine cnd (fun hc82 hr=>?_) (fun hc82 hr=>?_)
   ·refine sq<|rg<|V va<|?_
    obtain rfl:=Option.some.inj hr
    exact nl<|an<|cr<|zAC (zAE (zAC (⟨rfl,(zAA hX [] 4 J J wS trivial)⟩)))
   obtain ⟨o85,e86,hr⟩:=zA hr
   refine sk<|an<|sq<|rg<|V vfp<|V vlp<|V vnl<|V vm<|nl<|an<|bl<|?_
   refine zAb (t:=99) J (fun hl=>?_)
   refine zAI (List.length x80.1.2.2 : Int) (f5_b4 x63 x67 x80) (fun p=>match p with | (i83,())=>(⟨[(6,.bool false),(7,.ptr 0 0),(16,.sl .i x63.1),(19,.osl 1),(84,.osl 2),(85,.i (List.length x69 : Int)),(86,.i i71),(99,.sl .i x80.1.2.2),(100,.i (List.length x80.1.2.2 : Int)),(101,.i i83)],[(0,.tr E76 (some x63.2.2.2)),(1,.sl 3 .i x67),(2,.sl 3 .i x69)],3⟩ : AS)) (fun o e st=>match o with | .inl ()=>e=.exit 4∧Wk X st ⟨[(6,.bool false),(7,.ptr 0 0),(16,.sl .i x63.1),(19,.osl 1),(84,.osl 2),(85,.i (List.length x69 : Int)),(86,.i i71)],[(0,.tr E76 (some x63.2.2.2)),(1,.sl 3 .i x67),(2,.sl 3 .i x69)],3⟩ | .inr ()=>e=.ret∧Wk X st ⟨[(6,.bool false)],[],0⟩) (zAf hl) e86 (by exact zAA hX [0,1,2] 4 J J wS wO) ?_ ?_
   ·intro e st hx
    rcases o85 with _ | _
    ·obtain ⟨rfl,hw⟩:=hx
     refine bh<|bn<|an<|(zAY hw)<|rg<|V vad<|V vm<|?_
     obtain rfl:=Option.some.inj hr
     exact zAJ ((zAA hX [0,1,2] 4 J J wS wO))
    obtain ⟨rfl,hw⟩:=hx
    obtain rfl:=Option.some.inj hr
    exact zAE (zAE (zAC (⟨rfl,(Wk.trans hw (zAA hX [] 4 J J wS trivial))⟩)))
   rintro i83 _ o ho
   refine sq<|rg<|V vls<|nl<|an<|sq<|?_
   refine zAO (b:=decide (i83 < (List.length x80.1.2.2 : Int))) J (fun hc87=>?_) (fun hc87=>?_)
   ·obtain ⟨q,hr,rfl⟩:=zA7 hc87 ho
    obtain ⟨x88,e89,hr⟩:=zA hr
    obtain ⟨x90,e91,hr⟩:=zA hr
    refine sk<|an<|sq<|bl<|sq<|rg<|V (zAQ (t:=.i) (e:=x88) (undX 33 J) (szX 3 J) J J e89)<|V vlr<|V va<|nl<|an<|sq<|?_
    obtain ⟨h92,hr⟩:=zAN hr
    refine zAa [6,7,16,19,84,85,86,99,100,101,25] [(true,.osl 1),(true,.i x88),(true,.bool x90),(true,.bool (!x90)),(true,.bool (!x90)),(!(!x90),.sl .i x63.1),(!(!x90),.i x88),(!(!x90),.bool ((f15 x63.1 x88).getD default)),(true,.bool ((!x90)||((f15 x63.1 x88).getD default)))] [[],[],[0,1],[2],[3],[4],[4],[5,6,4],[7,4]] [8] J J J J J ⟨oB wm,oB wm,zAr J (fun hg=>zAD ⟨rfl,rfl,trivial⟩) (fun hg=>zAj (as':=[.osl 1,.i x88]) (zBY e91).x zB9 J ⟨cv0,cv0,trivial⟩ J J),oB wno,oB wm,oB wm,oB wm,zAr ⟨rfl,rfl,rfl,_,rfl,rfl⟩ (fun hg=>zAD ⟨hg,hg,rfl,trivial⟩) (fun hg=>zAV (zBY (zAz h92 hg)).x zB9 J J),zBr,trivial⟩ (zAD ⟨rfl,trivial⟩) ?_
    refine an<|?_
    refine cnd (fun hc93 hr=>?_) (fun hc93 hr=>?_)
    ·refine sq<|rg<|V va<|?_
     obtain rfl:=Option.some.inj hr
     exact nl<|an<|cr<|zAE (zAC (⟨rfl,(zAA hX [] 4 J J wS trivial)⟩))
    refine sk<|bn<|an<|rg<|V vad<|V vm<|?_
    obtain rfl:=Option.some.inj hr
    exact zAJ ((zAA hX [0,1,2] 4 J J wS wO))
   obtain rfl:=zA8 hc87 ho
   exact zAH (zAF (⟨rfl,(zAA hX [0,1,2] 4 J J wS wO)⟩))
  obtain rfl:=zA8 hc77 ho
  exact zAH (zAF (⟨rfl,(zAA hX [] 4 J J wS trivial)⟩))
 rintro i13 ⟨s15,s16⟩ o ho
 refine sq<|rg<|V vls<|nl<|an<|sq<|?_
 refine zAO (b:=decide (i13 < (List.length p1 : Int))) J (fun hc94=>?_) (fun hc94=>?_)
 ·obtain ⟨q,hr,rfl⟩:=zA7 hc94 ho
  obtain ⟨x95,e96,hr⟩:=zA hr
  obtain ⟨x97,e98,hr⟩:=zA hr
  obtain ⟨x99,e100,hr⟩:=zA hr
  refine sk<|an<|sq<|bl<|sq<|rg<|V (zAQ (t:=Y3) (e:=x95) (undX 23 J) (szX 35 J) J J e96)<|V vlR<|O oa<|O os<|nl<|an<|sq<|sq<|rg<|V vm<|?_
  refine zAG (zA9 (t:=50) (i:=1) (T:=80) (e:=F80) (x:=x97) e98 J J)<|zAG (zAd (i:=1) [.sl Y2 x97.1,.osl 3,.osl 4,.i x97.2.2.2.1,.i x97.2.2.2.2] [.sl 54 Y4 x97.2.1,.sl 42 Y5 x97.2.2.1] J J J J)<|V (zAj (as':=[.ptr 1 0]) (f10_runs e100).x ent10 J ⟨cv0,trivial⟩ J J)<|nl<|an<|?_
  refine cnd (fun hc101 hr=>?_) (fun hc101 hr=>?_)
  ·obtain rfl:=Option.some.inj hr
   exact zAH (zAF ((zBF J) (zAF (⟨rfl,(zAA hX [0] 4 J J wS wO)⟩))))
  obtain ⟨x102,e103,hr⟩:=zA hr
  obtain ⟨x104,e105,hr⟩:=zA hr
  refine sk<|an<|rg<|zAG (zAA (st':=⟨[(2,.i p2),(6,.bool false),(7,.map 0),(9,.map 1),(44,.sl Y3 p1),(45,.i (List.length p1 : Int)),(46,.i i13),(12,.ptr 2 0)],[(0,.tr E76 s15),(1,.var 80 [.sl Y2 x97.1,.osl 3,.osl 4,.i x97.2.2.2.1,.i x97.2.2.2.2]),(2,.var 35 (A35 x95)),(3,.sl 54 Y4 x97.2.1),(4,.sl 42 Y5 x97.2.2.1)],5⟩) hX [0,1,2,3,4] 4 J J wS wO)<|V vm<|?_
  refine zAG (wk_trvar (t:=9) (i:=1) J J)<|V vm<|V vlP<|?_
  refine zAG (zA9 (t:=52) (i:=0) (T:=76) (e:=F76) (x:=x102) e103 J J)<|zAG (pk (i:=1) (e:=F80) (js:=[3,4]) x97)<|?_
  refine zAK (zAP (σ:=[0,1]) (as':=[.ptr 0 0,.ptr 1 0,.agg (A35 x95)]) (f11_runs e105).x ent11 J ⟨cv0,cv0,cv0,trivial⟩ J J J ?_)
  refine nl<|bn<|an<|rg<|zAG (zAA (st':=⟨[(2,.i p2),(6,.bool false),(7,.map 0),(9,.ptr 1 0),(44,.sl Y3 p1),(45,.i (List.length p1 : Int)),(46,.i i13)],[(0,.tr E76 (some x104.2.1)),(1,.tr E80 (some x104.2.2)),(2,.var 35 (A35 x95)),(3,.dead),(4,.dead)],5⟩) hX [0,1,2,3,4] 4 J J wS wO)<|V vad<|V vm<|?_
  obtain rfl:=Option.some.inj hr
  exact zAJ ((zAA hX [0,1] 4 J J ⟨⟨_,rfl,cv0⟩,⟨_,rfl,cv0⟩,⟨_,rfl,cv0⟩,⟨_,rfl,cv6⟩,⟨_,rfl,cv0⟩,⟨_,rfl,cv0⟩,⟨_,rfl,cv0⟩,trivial⟩ wO))
 obtain rfl:=zA8 hc94 ho
 exact zAH (zAF (⟨rfl,(zAA hX [0] 4 J J wS wO)⟩))
end Go.Ab
namespace Go.Ab
abbrev RoleT:=ZO
abbrev zBU:=Str×List RoleT
abbrev PW:=List zBU×List (Int×(Int×Int×Str))×List (Int×(Int×Str×List Int))×Int×Int
abbrev RW:=List zBU×List (Int×Int×Str)×List (Int×Str×List Int)×Int×Int
theorem f7_true : f7=some true:=by decide +kernel
theorem find_tot {α:Type} [Inhabited α] {p:List α}{q:α→Option Bool}{g:Int→Unit→Option (Unit ⊕ Int)}(hg:∀ i s,g i s=(ix p i).bind fun x=>(q x).bind fun b=>bif b then some (.inr i) else some (.inl ())) (f:α→Bool) (hq:∀ x∈p,q x=some (f x)) :
  Tot ((rng g (Int.toNat (List.length p : Int)) 0 ()).bind fun o=>match o with
   | .inl ()=>some (-1)
   | .inr s=>some s) fun r=>(r=-1∧∀ x∈p,f x=false)∨∃ i : Nat,r=(i:Int)∧i < p.length∧f (p.getD i default)=true∧∀ j,j < i→f (p.getD j default)=false:=by
 rw [zBS]
 refine (zA1 (fun i _=>∀ j,j < i→f (p.getD j default)=false) (fun r=>∃ i : Nat,r=(i:Int)∧i < p.length∧f (p.getD i default)=true∧∀ j,j < i→f (p.getD j default)=false) (fun j hj=>absurd hj (by omega)) fun i s hi hs=>?_).bind fun o ho=>?_
 ·rw [hg]
  refine zA2 hi ?_
  rw [hq _ (zBV hi)]
  simp only [Option.bind_some]
  refine zAR (fun h=>zAB (.inr ⟨_,rfl,i,rfl,hi,h,hs⟩)) (fun h=>zAB (.inl ⟨_,rfl,fun j hj=>?_⟩))
  rcases Nat.lt_or_ge j i with h1 | h1
  ·exact hs j h1
  have : j=i:=by omega
  subst this; exact h
 rcases ho with ⟨s',rfl,h⟩ | ⟨r,rfl,h⟩
 ·refine zAB (.inl ⟨rfl,fun x hx=>?_⟩)
  obtain ⟨j,hj,rfl⟩:=zB4 default hx
  exact h j hj
 exact zAB (.inr h)
def Find {α:Type} [Inhabited α] (p:List α) (f:α→Bool) (r:Int) : Prop:=(r=-1∧∀ x∈p,f x=false)∨∃ i : Nat,r=(i:Int)∧i < p.length∧f (p.getD i default)=true∧∀ j,j < i→f (p.getD j default)=false
theorem f110_t {p:List Int}{q:Int→Option Bool}(f:Int→Bool) (hq:∀ x∈p,q x=some (f x)) : Tot (f110 p q) (Find p f):=find_tot (g:=f110_b0 p q) (fun i s=>rfl) f hq
theorem f79_t {p:List zBU}{q:zBU→Option Bool}(f:zBU→Bool) (hq:∀ x∈p,q x=some (f x)) : Tot (f79 p q) (Find p f):=find_tot (g:=f79_b0 p q) (fun i s=>rfl) f hq
theorem f112_t {p:List RoleT}{q:RoleT→Option Bool}(f:RoleT→Bool) (hq:∀ x∈p,q x=some (f x)) : Tot (f112 p q) (Find p f):=find_tot (g:=f112_b0 p q) (fun i s=>rfl) f hq
theorem f121_t {p:List Str}{q:Str→Option Bool}(f:Str→Bool) (hq:∀ x∈p,q x=some (f x)) : Tot (f121 p q) (Find p f):=find_tot (g:=f121_b0 p q) (fun i s=>rfl) f hq
theorem find_any {α:Type} [Inhabited α] {p:List α}{f:α→Bool}{r:Int}(h:Find p f r) : decide (0≤r)=p.any f:=by
 rcases h with ⟨rfl,h⟩ | ⟨i,rfl,hi,h,_⟩
 ·have : p.any f=false:=by rw [List.any_eq_false]; intro x hx; simp [h x hx]
  rw [this]; rfl
 have : p.any f=true:=List.any_eq_true.2 ⟨_,zBV hi,h⟩
 rw [this]; simp
theorem f66_eq {p:List Int}{q:Int→Option Bool}(f:Int→Bool) (hq:∀ x∈p,q x=some (f x)) : f66 p q=some (p.any f):=by
 have h : Tot (f66 p q) (fun b=>b=p.any f):=(f110_t f hq).bind fun r hr=>⟨_,rfl,find_any hr⟩
 exact h.eq
theorem f26_eq {p:List zBU}{q:zBU→Option Bool}(f:zBU→Bool) (hq:∀ x∈p,q x=some (f x)) : f26 p q=some (p.any f):=by
 have h : Tot (f26 p q) (fun b=>b=p.any f):=(f79_t f hq).bind fun r hr=>⟨_,rfl,find_any hr⟩
 exact h.eq
theorem f77_eq {p:List RoleT}{q:RoleT→Option Bool}(f:RoleT→Bool) (hq:∀ x∈p,q x=some (f x)) : f77 p q=some (p.any f):=by
 have h : Tot (f77 p q) (fun b=>b=p.any f):=(f112_t f hq).bind fun r hr=>⟨_,rfl,find_any hr⟩
 exact h.eq
theorem f106_eq {p:List Str}{q:Str→Option Bool}(f:Str→Bool) (hq:∀ x∈p,q x=some (f x)) : f106 p q=some (p.any f):=by
 have h : Tot (f106 p q) (fun b=>b=p.any f):=(f121_t f hq).bind fun r hr=>⟨_,rfl,find_any hr⟩
 exact h.eq
theorem zCE {α β:Type} [Inhabited α] {p:List α}{g:Int→Unit→Option (Unit ⊕ β)}(f:α→Bool) (r:α→β) (hg:∀ i s,g i s=(ix p i).bind fun x=>bif f x then some (.inr (r x)) else some (.inl ())) :
  Tot (rng g (Int.toNat (List.length p : Int)) 0 ()) fun o=>(o=.inl ()∧p.any f=false)∨∃ i,i < p.length∧o=.inr (r (p.getD i default))∧f (p.getD i default)=true∧p.any f=true∧∀ j,j < i→f (p.getD j default)=false:=by
 rw [zBS]
 refine (zA1 (fun i _=>∀ j,j < i→f (p.getD j default)=false) (fun q=>∃ i,i < p.length∧q=r (p.getD i default)∧f (p.getD i default)=true∧∀ j,j < i→f (p.getD j default)=false) (fun j hj=>absurd hj (by omega)) fun i s hi hs=>?_).mono fun o ho=>?_
 ·rw [hg]
  refine zA2 hi ?_
  refine zAR (fun h=>zAB (.inr ⟨_,rfl,i,hi,rfl,h,hs⟩)) (fun h=>zAB (.inl ⟨_,rfl,fun j hj=>?_⟩))
  rcases Nat.lt_or_ge j i with h1 | h1
  ·exact hs j h1
  have : j=i:=by omega
  subst this; exact h
 rcases ho with ⟨s',rfl,h⟩ | ⟨q,rfl,i,hi,rfl,h1,h2⟩
 ·refine .inl ⟨rfl,?_⟩
  rw [List.any_eq_false]
  intro x hx
  obtain ⟨j,hj,rfl⟩:=zB4 default hx
  rw [h j hj]; exact Bool.false_ne_true
 exact .inr ⟨i,hi,rfl,h1,List.any_eq_true.2 ⟨_,zBV hi,h1⟩,h2⟩
theorem zCp (l:List Int) (n:Int) : f15 l n=some (l.any fun x=>decide (x=n)):=by
 have h : Tot (f15 l n) (fun b=>b=l.any fun x=>decide (x=n)) :=
  (zCE (g:=f15_b0 l n) (fun x=>decide (x=n)) (fun _=>()) (fun i s=>rfl)).bind fun o ho=>by
   rcases ho with ⟨rfl,h⟩ | ⟨i,_,rfl,_,h,_⟩
   ·exact ⟨_,rfl,h.symm⟩
   exact ⟨_,rfl,h.symm⟩
 exact h.eq
theorem f82_eq (w:RW) (n:Int) : f82 w n=some (w.2.1.any fun x=>decide (x.1=n)):=by
 have h : Tot (f82 w n) (fun b=>b=w.2.1.any fun x=>decide (x.1=n)) :=
  (zCE (g:=f82_b0 w n) (fun x:Int×Int×Str=>decide (x.1=n)) (fun _=>()) (fun i s=>rfl)).bind fun o ho=>by
   rcases ho with ⟨rfl,h⟩ | ⟨i,_,rfl,_,h,_⟩
   ·exact ⟨_,rfl,h.symm⟩
   exact ⟨_,rfl,h.symm⟩
 exact h.eq
theorem map_tot {α β:Type} [Inhabited α] {p:List α}(c:Nat) (f:α→β){g:Int→List β→Option (List β ⊕ Unit)}(hg:∀ i s,g i s=(ix p i).bind fun x=>bif apOk c (List.length s+List.length [f x]) then some (.inl (s++[f x])) else none) (hl:(p.length+1) * c≤140737488355328) :
  Tot (rng g (Int.toNat (List.length p : Int)) 0 []) fun o=>o=.inl (p.map f):=by
 rw [zBS]
 refine (zAq (fun i s=>s=(p.take i).map f) rfl fun i s hi hs=>?_).mono fun o ho=>?_
 ·subst hs
  rw [hg]
  refine zA2 hi (zAi (zBf ?_) (zAB ⟨_,rfl,?_⟩))
  ·rw [List.length_map,List.length_take,List.length_singleton]
   exact Nat.le_trans (Nat.mul_le_mul_right c (by omega)) hl
  rw [zCx default hi,List.map_append]; rfl
 obtain ⟨s',rfl,rfl⟩:=ho; rw [List.take_length]
theorem f30_eq (w:RW) (h:w.2.1.length≤100000) : f30 w=some (w.2.1.map (·.1)):=by
 have h : Tot (f30 w) (fun b=>b=w.2.1.map (·.1)):=(map_tot 8 (fun x:Int×Int×Str=>x.1) (g:=f30_b0 w) (fun i s=>rfl) (by omega)).bind fun o ho=>by subst ho; exact ⟨_,rfl,rfl⟩
 exact h.eq
theorem f31_eq (w:RW) (h:w.2.2.1.length≤100000) : f31 w=some (w.2.2.1.map (·.1)):=by
 have h : Tot (f31 w) (fun b=>b=w.2.2.1.map (·.1)):=(map_tot 8 (fun x:Int×Str×List Int=>x.1) (g:=f31_b0 w) (fun i s=>rfl) (by omega)).bind fun o ho=>by subst ho; exact ⟨_,rfl,rfl⟩
 exact h.eq
theorem zCs {α:Type} [Inhabited α] {p:List α}{g:Int→Unit→Option (Unit ⊕ Unit)}(f:Nat→α→Bool) (hg:∀ (i:Nat) s,i < p.length→g (i:Int) s=bif f i (p.getD i default) then some (.inr ()) else some (.inl ())) :
  Tot (rng g (Int.toNat (List.length p : Int)) 0 ()) fun o=>(o=.inl ()∧∀ i,i < p.length→f i (p.getD i default)=false)∨(o=.inr ()∧∃ i,i < p.length∧f i (p.getD i default)=true):=by
 rw [zBS]
 refine (zA1 (fun i _=>∀ j,j < i→f j (p.getD j default)=false) (fun q=>∃ i,i < p.length∧f i (p.getD i default)=true) (fun j hj=>absurd hj (by omega)) fun i s hi hs=>?_).mono fun o ho=>?_
 ·rw [hg i s hi]
  refine zAR (fun h=>zAB (.inr ⟨_,rfl,i,hi,h⟩)) (fun h=>zAB (.inl ⟨_,rfl,fun j hj=>?_⟩))
  rcases Nat.lt_or_ge j i with h1 | h1
  ·exact hs j h1
  have : j=i:=by omega
  subst this; exact h
 rcases ho with ⟨s',rfl,h⟩ | ⟨q,rfl,h⟩
 ·exact .inl ⟨rfl,h⟩
 exact .inr ⟨rfl,h⟩
def badB (i:Nat) (c:UInt8) : Bool:=!(decide (97≤c.toNat)&&decide (c.toNat≤122))&&!(decide (65≤c.toNat)&&decide (c.toNat≤90))&&(decide (i=0)||!decide (c.toNat=95)&&!(decide (48≤c.toNat)&&decide (c.toNat≤57)))
def zC5 (p:Str) : Bool:=((List.range p.length).all fun i=>!badB i (p.getD i default))&&(!decide (p=[]))&&decide (p.length≤32)
theorem zB1 {n:Nat}{f:Nat→Bool} : ((List.range n).all f)=true↔∀ i,i < n→f i=true:=by
 rw [List.all_eq_true]; exact ⟨fun h i hi=>h i (List.mem_range.2 hi),fun h i hi=>h i (List.mem_range.1 hi)⟩
theorem f73_eq (p:Str) (h:p.length≤100000) : f73 p=some (zC5 p):=by
 have h1 : Tot (f73 p) (fun b=>b=zC5 p):=by
  unfold f73
  refine zAi (by simp; omega) ((zCs (g:=f73_b0 p) badB fun i s hi=>?_).bind fun o ho=>?_)
  ·unfold f73_b0
   rw [zBW hi]
   simp only [Option.bind_some]
   congr 1
   rw [Bool.eq_iff_iff]
   simp only [badB,Bool.and_eq_true,Bool.or_eq_true,decide_eq_true_eq,Bool.not_eq_true',decide_eq_false_iff_not,Bool.and_eq_false_iff]
   omega
  rcases ho with ⟨rfl,h1⟩ | ⟨rfl,i,hi,h1⟩
  ·refine ⟨_,rfl,?_⟩
   have : ((List.range p.length).all fun i=>!badB i (p.getD i default))=true:=zB1.2 fun i hi=>by rw [h1 i hi]; rfl
   simp only [zC5,this,Bool.true_and]
   congr 1
   rw [Bool.eq_iff_iff]; simp only [decide_eq_true_eq]; omega
  refine ⟨_,rfl,?_⟩
  have : ((List.range p.length).all fun i=>!badB i (p.getD i default))=false:=by
   rw [Bool.eq_false_iff]; intro hc; have:=zB1.1 hc i hi; rw [h1] at this; cases this
  simp only [zC5,this,Bool.false_and]
 exact h1.eq
theorem f80_eq (p:Str) (h:p.length≤100000) : f80 p=some (zC5 p):=by
 have h1 : Tot (f80 p) (fun b=>b=zC5 p):=by
  unfold f80
  refine zAi (by simp; omega) ((zCs (g:=f80_b0 p) badB fun i s hi=>?_).bind fun o ho=>?_)
  ·unfold f80_b0
   rw [zBW hi]
   simp only [Option.bind_some,Option.isSome_some,Bool.or_true,cond_true,Option.getD_some]
   congr 1
   rw [Bool.eq_iff_iff]
   simp only [badB,Bool.and_eq_true,Bool.or_eq_true,decide_eq_true_eq,Bool.not_eq_true',decide_eq_false_iff_not,Bool.and_eq_false_iff,Bool.or_eq_false_iff]
   omega
  rcases ho with ⟨rfl,h1⟩ | ⟨rfl,i,hi,h1⟩
  ·refine ⟨_,rfl,?_⟩
   have : ((List.range p.length).all fun i=>!badB i (p.getD i default))=true:=zB1.2 fun i hi=>by rw [h1 i hi]; rfl
   simp only [zC5,this,Bool.true_and]
   congr 1
   rw [Bool.eq_iff_iff]; simp only [decide_eq_true_eq]; omega
  refine ⟨_,rfl,?_⟩
  have : ((List.range p.length).all fun i=>!badB i (p.getD i default))=false:=by
   rw [Bool.eq_false_iff]; intro hc; have:=zB1.1 hc i hi; rw [h1] at this; cases this
  simp only [zC5,this,Bool.false_and]
 exact h1.eq
def wayB (k:Int) : Bool:=decide (1≤k)&&decide (k≤3)
def zC9 (r:RoleT) : Bool:=wayB r.2.2.2.1&&wayB r.2.2.2.2.1&&wayB r.2.2.2.2.2&&zC5 r.1&&(decide (r.2.1=0)||decide (r.2.1=1))&&decide (0≤r.2.2.1)&&decide (r.2.2.1≤100)
theorem ways_any (a b c:Int) : ([a,b,c].any fun k=>!wayB k)=!(wayB a&&wayB b&&wayB c):=by
 simp only [List.any_cons,List.any_nil,Bool.or_false,Bool.not_and,Bool.or_assoc]
theorem f76_eq (r:RoleT) (h:r.1.length≤100000) : f76 r=some (zC9 r):=by
 have h1 : Tot (f76 r) (fun b=>b=zC9 r):=by
  unfold f76
  refine Tot.bind (zCE (p:=[r.2.2.2.1,r.2.2.2.2.1,r.2.2.2.2.2]) (g:=f76_b0 r) (fun k=>!wayB k) (fun _=>()) (fun i s=>?_)) fun o ho=>?_
  ·unfold f76_b0
   congr 1
   funext k
   congr 1
   rw [Bool.eq_iff_iff]
   simp only [wayB,Bool.or_eq_true,decide_eq_true_eq,Bool.not_eq_true',Bool.and_eq_false_iff,decide_eq_false_iff_not]
   omega
  rw [ways_any] at ho
  rcases ho with ⟨rfl,h1⟩ | ⟨i,_,rfl,_,h1,_⟩
  ·simp only [f73_eq _ h,Option.bind_some]
   refine zAB ?_
   simp only [Bool.not_eq_false'] at h1
   simp only [zC9,h1,Bool.true_and]
  refine ⟨_,rfl,?_⟩
  simp only [Bool.not_eq_true'] at h1
  simp only [zC9,h1,Bool.false_and]
 exact h1.eq
def sortB (s:zBU) : Bool:=((List.range s.2.length).all fun i=>zC9 (s.2.getD i default)&&!((s.2.take i).any fun y=>decide (y.1=(s.2.getD i default).1)))&&zC5 s.1&&decide (2≤s.2.length)&&decide (s.2.length≤3)
def shortS (s:zBU) : Prop:=s.1.length≤60∧s.2.length≤5∧∀ r∈s.2,r.1.length≤60
theorem f25_eq (s:zBU) (h:shortS s) : f25 s=some (sortB s):=by
 have h1 : Tot (f25 s) (fun b=>b=sortB s):=by
  unfold f25
  refine Tot.bind (zCs (p:=s.2) (g:=f25_b0 s) (fun i r=>!(zC9 r&&!((s.2.take i).any fun y=>decide (y.1=r.1)))) (fun i u hi=>?_)) fun o ho=>?_
  ·unfold f25_b0
   have hr : (s.2.getD i default).1.length≤100000:=Nat.le_trans (h.2.2 _ (zBV hi)) (by omega)
   rw [zBW hi]
   simp only [Option.bind_some,f76_eq _ hr]
   rw [slOk_t (by omega) (by omega) (by omega)]
   rw [f77_eq (p:=(s.2.take (Int.toNat (i:Int))).drop (Int.toNat 0)) (fun y=>decide (y.1=(s.2.getD i default).1)) (fun y _=>by
    show some _=some _
    rw [eq_comm])]
   simp only [Bool.or_true,cond_true,Option.isSome_some,Option.getD_some,Int.toNat_natCast,Int.toNat_zero,List.drop_zero]
   congr 1
   simp only [Bool.not_and,Bool.not_not]
  rcases ho with ⟨rfl,h1⟩ | ⟨rfl,i,hi,h1⟩
  ·simp only [f73_eq s.1 (Nat.le_trans h.1 (by omega)),Option.bind_some]
   refine zAB ?_
   have : ((List.range s.2.length).all fun i=>zC9 (s.2.getD i default)&&!((s.2.take i).any fun y=>decide (y.1=(s.2.getD i default).1)))=true:=zB1.2 fun i hi=>by have:=h1 i hi; simpa only [Bool.not_eq_false'] using this
   simp only [sortB,this,Bool.true_and]
   rw [Bool.eq_iff_iff]; simp only [Bool.and_eq_true,decide_eq_true_eq]
   constructor <;> rintro ⟨⟨h1,h2⟩,h3⟩ <;> exact ⟨⟨h1,by omega⟩,by omega⟩
  refine ⟨_,rfl,?_⟩
  have : ((List.range s.2.length).all fun i=>zC9 (s.2.getD i default)&&!((s.2.take i).any fun y=>decide (y.1=(s.2.getD i default).1)))=false:=by
   rw [Bool.eq_false_iff]; intro hc; have h2:=zB1.1 hc i hi
   rw [Bool.not_eq_true'] at h1
   rw [h2] at h1; cases h1
  simp only [sortB,this,Bool.false_and]
 exact h1.eq
def earlyR (s:zBU) (i:Nat) : Bool:=(s.2.take i).any fun y=>decide (y.1=(s.2.getD i default).1)
theorem f29_b0_eq (s:zBU) (h:shortS s) (i:Nat) (hi:i < s.2.length) (u:Unit) : f29_b0 s (i:Int) u=bif !(zC9 (s.2.getD i default)&&!earlyR s i) then some (.inr ()) else some (.inl ()):=by
 have hr : (s.2.getD i default).1.length≤100000:=Nat.le_trans (h.2.2 _ (zBV hi)) (by omega)
 have h1 : Tot (f29_b0 s (i:Int) u) (fun o=>o=bif !(zC9 (s.2.getD i default)&&!earlyR s i) then .inr () else .inl ()):=by
  unfold f29_b0
  refine zA2 hi (zAi (slOk_t (by omega) (by omega) (by omega)) ?_)
  refine (zCE (g:=f29_b1 s (i:Int) (s.2.getD i default)) (fun x:RoleT=>decide (x.1=(s.2.getD i default).1)) (fun _=>()) (fun j u=>rfl)).bind fun o ho=>?_
  simp only [Int.toNat_natCast,Int.toNat_zero,List.drop_zero] at ho
  rcases ho with ⟨rfl,h1⟩ | ⟨j,_,rfl,_,h1,_⟩
  ·have he : earlyR s i=false:=h1
   refine (zCE (g:=f29_b2 (s.2.getD i default)) (fun k=>!wayB k) (fun _=>()) (fun j u=>?_)).bind fun o ho=>?_
   ·unfold f29_b2
    congr 1
    funext k
    congr 1
    rw [Bool.eq_iff_iff]
    simp only [wayB,Bool.or_eq_true,decide_eq_true_eq,Bool.not_eq_true',Bool.and_eq_false_iff,decide_eq_false_iff_not]
    omega
   rw [ways_any] at ho
   rcases ho with ⟨rfl,h2⟩ | ⟨j,_,rfl,_,h2,_⟩
   ·simp only [Bool.not_eq_false'] at h2
    simp only [f80_eq _ hr,Option.bind_some]
    have : (!(zC9 (s.2.getD i default)&&!earlyR s i))=((((!zC5 (s.2.getD i default).1||decide ((s.2.getD i default).2.1 < 0))||decide (1 < (s.2.getD i default).2.1))||decide ((s.2.getD i default).2.2.1 < 0))||decide (100 < (s.2.getD i default).2.2.1)):=by
     rw [he,Bool.not_false,Bool.and_true,zC9,h2,Bool.true_and,Bool.eq_iff_iff]
     simp only [Bool.or_eq_true,decide_eq_true_eq,Bool.not_eq_true',Bool.and_eq_false_iff,decide_eq_false_iff_not,Bool.or_eq_false_iff]
     cases zC5 (s.2.getD i default).1
     ·simp
     simp only [Bool.true_eq_false,false_or]; omega
    rw [this]
    refine zAR (fun h=>?_) (fun h=>?_) <;> rw [h] <;> exact zAB rfl
   refine zAB ?_
   simp only [Bool.not_eq_true'] at h2
   rw [zC9,h2]; rfl
  refine zAB ?_
  have he : earlyR s i=true:=h1
  rw [he]; simp
 rw [h1.eq]; cases (!(zC9 (s.2.getD i default)&&!earlyR s i)) <;> rfl
theorem f29_eq (s:zBU) (h:shortS s) : f29 s=some (sortB s):=by
 have h1 : Tot (f29 s) (fun b=>b=sortB s):=by
  unfold f29
  rw [f80_eq s.1 (Nat.le_trans h.1 (by omega))]
  simp only [Option.bind_some]
  have hs : sortB s=(((List.range s.2.length).all fun i=>zC9 (s.2.getD i default)&&!earlyR s i)&&zC5 s.1&&decide (2≤s.2.length)&&decide (s.2.length≤3)):=rfl
  refine zAR (fun h1=>?_) (fun h1=>?_)
  ·refine zAB ?_
   symm
   rw [hs,Bool.eq_false_iff]
   simp only [Bool.or_eq_true,Bool.not_eq_true',decide_eq_true_eq,Bool.and_eq_true,ne_eq] at h1 ⊢
   rintro ⟨⟨⟨_,h2⟩,h3⟩,h4⟩
   rcases h1 with (h1 | h1) | h1
   ·rw [h1] at h2; cases h2
   ·omega
   omega
  simp only [Bool.or_eq_false_iff,Bool.not_eq_false',decide_eq_false_iff_not] at h1
  refine (zCs (p:=s.2) (g:=f29_b0 s) (fun i r=>!(zC9 (s.2.getD i default)&&!earlyR s i)) (fun i u hi=>f29_b0_eq s h i hi u)).bind fun o ho=>?_
  rcases ho with ⟨rfl,h2⟩ | ⟨rfl,i,hi,h2⟩
  ·refine zAB ?_
   symm
   rw [hs]
   have : ((List.range s.2.length).all fun i=>zC9 (s.2.getD i default)&&!earlyR s i)=true:=zB1.2 fun i hi=>by have:=h2 i hi; simpa only [Bool.not_eq_false'] using this
   rw [this,h1.1.1]
   simp only [Bool.true_and,Bool.and_eq_true,decide_eq_true_eq]; omega
  refine zAB ?_
  symm
  rw [hs]
  have : ((List.range s.2.length).all fun i=>zC9 (s.2.getD i default)&&!earlyR s i)=false:=by
   rw [Bool.eq_false_iff]; intro hc; have h3:=zB1.1 hc i hi
   rw [Bool.not_eq_true'] at h2
   rw [h2] at h3; cases h3
  rw [this]; simp
 exact h1.eq
def earlyS (p:List zBU) (i:Nat) : Bool:=(p.take i).any fun y=>decide (y.1=(p.getD i default).1)
def zB8 (p:List zBU) : Bool:=((List.range p.length).all fun i=>sortB (p.getD i default)&&!earlyS p i)&&decide (p.length≤20)
theorem f8_b0_eq (p:List zBU) (h:∀ s∈p,shortS s) (i:Nat) (hi:i < p.length) (u:Unit) : f8_b0 p (i:Int) u=bif !(sortB (p.getD i default)&&!earlyS p i) then some (.inr ()) else some (.inl ()):=by
 unfold f8_b0
 rw [zBW hi]
 simp only [Option.bind_some,f25_eq _ (h _ (zBV hi))]
 rw [slOk_t (by omega) (by omega) (by omega)]
 rw [f26_eq (p:=(p.take (Int.toNat (i:Int))).drop (Int.toNat 0)) (q:=fun y1=>f27 y1 (p.getD i default)) (fun y=>decide (y.1=(p.getD i default).1)) (fun y _=>rfl)]
 simp only [Bool.or_true,cond_true,Option.isSome_some,Option.getD_some,Int.toNat_natCast,Int.toNat_zero,List.drop_zero]
 congr 1
 simp only [Bool.not_and,Bool.not_not]
 rfl
theorem f9_b0_eq (p:List zBU) (h:∀ s∈p,shortS s) (i:Nat) (hi:i < p.length) (u:Unit) : f9_b0 p (i:Int) u=bif !(sortB (p.getD i default)&&!earlyS p i) then some (.inr ()) else some (.inl ()):=by
 unfold f9_b0
 rw [zBW hi]
 simp only [Option.bind_some,f29_eq _ (h _ (zBV hi))]
 cases hs : sortB (p.getD i default)
 ·rfl
 simp only [Bool.not_true,cond_false,Bool.true_and,Bool.not_not]
 rw [slOk_t (by omega) (by omega) (by omega)]
 have h1:=zCE (p:=(p.take (Int.toNat (i:Int))).drop (Int.toNat 0)) (g:=f9_b1 p (i:Int) (p.getD i default)) (fun x:zBU=>decide (x.1=(p.getD i default).1)) (fun _=>()) (fun j u=>rfl)
 obtain ⟨o,ho,h1⟩:=h1
 rw [ho]
 simp only [Int.toNat_natCast,Int.toNat_zero,List.drop_zero] at h1
 have he : earlyS p i=(p.take i).any fun x=>decide (x.1=(p.getD i default).1):=rfl
 rcases h1 with ⟨rfl,h2⟩ | ⟨j,_,rfl,_,h2,_⟩
 ·rw [he,h2]; rfl
 rw [he,h2]; rfl
theorem zCB {p:List zBU} : zB8 p=true↔(∀ i,i < p.length→(sortB (p.getD i default)&&!earlyS p i)=true)∧p.length≤20:=by
 rw [zB8,Bool.and_eq_true,zB1,decide_eq_true_eq]
theorem f8_eq (p:List zBU) (h:∀ s∈p,shortS s) (hl:p.length≤25) : f8 p=some (bif zB8 p then (0,some (p,[],[],1,1)) else (1,none)):=by
 have h1 : Tot (f8 p) (fun r=>r=bif zB8 p then (0,some (p,[],[],1,1)) else (1,none)):=by
  unfold f8
  refine (zCs (p:=p) (g:=f8_b0 p) (fun i r=>!(sortB (p.getD i default)&&!earlyS p i)) (fun i u hi=>f8_b0_eq p h i hi u)).bind fun o ho=>?_
  rcases ho with ⟨rfl,h2⟩ | ⟨rfl,i,hi,h2⟩
  ·refine zAR (fun h3=>?_) (fun h3=>?_)
   ·have : zB8 p=false:=by
     rw [Bool.eq_false_iff]; intro hc; have:=(zCB.1 hc).2
     simp only [decide_eq_true_eq] at h3; omega
    rw [this]; exact zAB rfl
   have : zB8 p=true:=zCB.2 ⟨fun i hi=>by have:=h2 i hi; simpa only [Bool.not_eq_false'] using this,by simp only [decide_eq_false_iff_not] at h3; omega⟩
   rw [this,zBS]
   refine (zAq (fun i s=>s=p.take i) rfl fun i s hi hs=>?_).bind fun o ho=>?_
   ·subst hs
    unfold f8_b1
    refine zA2 hi ?_
    have hk:=(h _ (zBV (d:=default) hi)).2.1
    have hc : f28 (p.getD i default).2=some (p.getD i default).2:=by
     unfold f28
     rw [zBf (by simp only [List.length_nil,Nat.zero_add]; omega)]; rfl
    rw [hc]
    simp only [Option.bind_some]
    refine zAi (zBf (by rw [List.length_take,List.length_singleton]; omega)) (zAB ⟨_,rfl,?_⟩)
    rw [zCx default hi]
   obtain ⟨s',rfl,rfl⟩:=ho
   rw [List.take_length]; exact zAB rfl
  have : zB8 p=false:=by
   rw [Bool.eq_false_iff]; intro hc; have:=(zCB.1 hc).1 i hi
   rw [this] at h2; cases h2
  rw [this]; exact zAB rfl
 exact h1.eq
theorem f9_eq (p:List zBU) (h:∀ s∈p,shortS s) : f9 p=some (bif zB8 p then (0,some (p,[],[],1,1)) else (1,none)):=by
 have h1 : Tot (f9 p) (fun r=>r=bif zB8 p then (0,some (p,[],[],1,1)) else (1,none)):=by
  unfold f9
  refine (zCs (p:=p) (g:=f9_b0 p) (fun i r=>!(sortB (p.getD i default)&&!earlyS p i)) (fun i u hi=>f9_b0_eq p h i hi u)).bind fun o ho=>?_
  rcases ho with ⟨rfl,h2⟩ | ⟨rfl,i,hi,h2⟩
  ·refine zAR (fun h3=>?_) (fun h3=>?_)
   ·have : zB8 p=false:=by
     rw [Bool.eq_false_iff]; intro hc; have:=(zCB.1 hc).2
     simp only [decide_eq_true_eq] at h3; omega
    rw [this]; exact zAB rfl
   have : zB8 p=true:=zCB.2 ⟨fun i hi=>by have:=h2 i hi; simpa only [Bool.not_eq_false'] using this,by simp only [decide_eq_false_iff_not] at h3; omega⟩
   rw [this]; exact zAB rfl
  have : zB8 p=false:=by
   rw [Bool.eq_false_iff]; intro hc; have:=(zCB.1 hc).1 i hi
   rw [this] at h2; cases h2
  rw [this]; exact zAB rfl
 exact h1.eq
theorem zBj {α:Type} [DecidableEq α] : ∀ {l m:List α},l.Nodup→(∀ x∈l,x∈m)→l.length≤m.length:=by
 intro l
 induction l with
 | nil=>intro m _ _; exact Nat.zero_le _
 | cons a l ih =>
  intro m hn hs
  have ha : a∈m:=hs a (by simp)
  have h1:=ih (m:=m.erase a) (List.nodup_cons.1 hn).2 fun x hx=>by
   have hne : x≠a:=fun he=>(List.nodup_cons.1 hn).1 (he ▸ hx)
   exact (List.mem_erase_of_ne hne).2 (hs x (by simp [hx]))
  rw [List.length_erase_of_mem ha] at h1
  have : 0 < m.length:=List.length_pos_of_mem ha
  simp only [List.length_cons]; omega
theorem nodup_range {l:List Int}{B:Int}(hn:l.Nodup) (h:∀ x∈l,1≤x∧x < B) : (l.length : Int)≤B∨l=[]:=by
 rcases l with _ | ⟨a,l⟩
 ·exact .inr rfl
 left
 have h1 : (a::l).length≤((List.range B.toNat).map fun n : Nat=>(n:Int)).length:=zBj hn fun x hx=>by
  have:=h x hx
  exact List.mem_map.2 ⟨x.toNat,List.mem_range.2 (by omega),by omega⟩
 rw [List.length_map,List.length_range] at h1
 have:=h a (by simp)
 omega
theorem mget_mem {α β:Type} [DecidableEq α] : ∀ {x:List (α×β)}{k:α}{v:β},mget x k=some v→(k,v)∈x:=by
 intro x
 induction x with
 | nil=>intro k v h; simp [mget] at h
 | cons p x ih =>
  intro k v h
  obtain ⟨a,b⟩:=p
  simp only [mget] at h
  split at h
  ·next he=>simp only [Option.some.injEq] at h; subst h; simp [← he]
  exact List.mem_cons_of_mem _ (ih h)
theorem mem_mget {α β:Type} [DecidableEq α] : ∀ {x:List (α×β)}{k:α}{v:β},(x.map (·.1)).Nodup→(k,v)∈x→mget x k=some v:=by
 intro x
 induction x with
 | nil=>intro k v _ h; simp at h
 | cons p x ih =>
  intro k v hn h
  obtain ⟨a,b⟩:=p
  simp only [List.map_cons,List.nodup_cons] at hn
  simp only [mget]
  rcases List.mem_cons.1 h with h | h
  ·simp only [Prod.mk.injEq] at h; rw [if_pos h.1,h.2]
  have : ¬ k=a:=fun he=>hn.1 (he ▸ List.mem_map.2 ⟨_,h,rfl⟩)
  rw [if_neg this]; exact ih hn.2 h
theorem zBk {α β:Type} [DecidableEq α] {x:List (α×β)}{k:α} : k∈x.map (·.1)↔(mget x k).isSome=true:=by
 cases h : mget x k with
 | none=>simp [mget_none_iff.1 h]
 | some v=>exact ⟨fun _=>rfl,fun _=>List.mem_map.2 ⟨_,mget_mem h,rfl⟩⟩
theorem mset_mem {α β:Type} [DecidableEq α] : ∀ {x:List (α×β)}{k:α}{v:β}{e:α×β},e∈mset x k v→e=(k,v)∨e∈x:=by
 intro x
 induction x with
 | nil=>intro k v e h; simp [mset] at h; exact .inl h
 | cons p x ih =>
  intro k v e h
  obtain ⟨a,b⟩:=p
  simp only [mset] at h
  split at h
  ·rcases List.mem_cons.1 h with h | h
   ·exact .inl h
   exact .inr (List.mem_cons_of_mem _ h)
  rcases List.mem_cons.1 h with h | h
  ·exact .inr (by rw [h]; simp)
  rcases ih h with h | h
  ·exact .inl h
  exact .inr (List.mem_cons_of_mem _ h)
theorem zBc {α β:Type} [DecidableEq α] {x:List (α×β)}{k q:α}{v:β} : q∈(mset x k v).map (·.1)↔q=k∨q∈x.map (·.1):=by
 rw [mset_keys]; split
 ·next h=>exact ⟨.inr,fun h1=>h1.elim (fun e=>e ▸ h) id⟩
 rw [List.mem_append,List.mem_singleton]; exact ⟨fun h=>h.symm,fun h=>h.symm⟩
theorem mset_length {α β:Type} [DecidableEq α] {x:List (α×β)}{k:α}{v:β} : (mset x k v).length≤x.length+1:=by
 have h:=congrArg List.length (mset_keys x k v)
 rw [List.length_map] at h
 split at h <;> simp at h <;> omega
theorem mset_length_in {α β:Type} [DecidableEq α] {x:List (α×β)}{k:α}{v:β}(hk:k∈x.map (·.1)) : (mset x k v).length=x.length:=by
 have h:=congrArg List.length (mset_keys x k v)
 rw [if_pos hk,List.length_map,List.length_map] at h; exact h
theorem zCo {α β:Type} [DecidableEq α] : ∀ {x:List (α×β)}{k:α}{e:α×β},(x.map (·.1)).Nodup→(e∈mdel x k↔e∈x∧e.1≠k):=by
 intro x
 induction x with
 | nil=>intro k e _; simp [mdel]
 | cons p x ih =>
  intro k e hn
  obtain ⟨a,b⟩:=p
  simp only [List.map_cons,List.nodup_cons] at hn
  simp only [mdel]
  split
  ·next he =>
   subst he
   constructor
   ·intro h; exact ⟨List.mem_cons_of_mem _ h,fun he=>hn.1 (he ▸ List.mem_map.2 ⟨_,h,rfl⟩)⟩
   rintro ⟨h,h1⟩
   rcases List.mem_cons.1 h with h | h
   ·exact absurd (by rw [h]) h1
   exact h
  next he =>
  rw [List.mem_cons,ih hn.2,List.mem_cons]
  constructor
  ·rintro (h | h)
   ·subst h; exact ⟨.inl rfl,fun h=>he h.symm⟩
   exact ⟨.inr h.1,h.2⟩
  rintro ⟨h | h,h1⟩
  ·exact .inl h
  exact .inr ⟨h,h1⟩
theorem skeys_t {α:Type}{x:List (Int×α)}{B:Int}(hn:(x.map (·.1)).Nodup) (hk:∀ k∈x.map (·.1),1≤k∧k < B) (hB:B≤1000000000) : skeys x=some (zBT (x.map (·.1))):=by
 have hl : x.length≤1000000000:=by
  rcases nodup_range hn hk with h | h
  ·rw [List.length_map] at h; omega
  have : x.length=0:=by rw [← List.length_map (f:=(·.1)),h]; rfl
  omega
 unfold skeys
 have h1 : (x.all fun p=>decide (-9223372036854775808≤p.1)&&decide (p.1≤9223372036854775807))=true:=by
  rw [List.all_eq_true]; intro p hp
  have:=hk p.1 (List.mem_map.2 ⟨p,hp,rfl⟩)
  simp only [Bool.and_eq_true,decide_eq_true_eq]; omega
 have h2 : Nat.ble x.length 1000000000000=true:=by rw [Nat.ble_eq]; omega
 rw [h1,h2]; rfl
theorem zBv {l:List Int}{k:Int} : k∈zBT l↔k∈l:=(zBw l).mem_iff
theorem zCN {l:List Int} : (zBT l).length=l.length:=(zBw l).length_eq
structure SS (ss:List zBU) : Prop where
 uniq : ∀ s∈ss,∀ t∈ss,s.1=t.1→s=t
 len : ∀ s∈ss,2≤s.2.length∧s.2.length≤3
 role : ∀ s∈ss,∀ r∈s.2,zC9 r=true
 cnt : ss.length≤20
 short : ∀ s∈ss,shortS s
theorem ss_of {p:List zBU}(h:∀ s∈p,shortS s) (ho:zB8 p=true) : SS p:=by
 obtain ⟨h1,h2⟩:=zCB.1 ho
 have h3 : ∀ s∈p,sortB s=true:=fun s hs=>by
  obtain ⟨i,hi,rfl⟩:=zB4 default hs
  exact (Bool.and_eq_true _ _ ▸ h1 i hi).1
 have hne : ∀ i j,i < j→j < p.length→(p.getD i default).1≠(p.getD j default).1:=fun i j hij hj he=>by
  have:=h1 j hj
  rw [Bool.and_eq_true,Bool.not_eq_true'] at this
  have h4:=this.2
  rw [earlyS,List.any_eq_false] at h4
  refine h4 (p.getD i default) ?_ (by simp only [decide_eq_true_eq]; exact he)
  rw [← getD_take (n:=j) hij]
  exact zBV (by rw [List.length_take]; omega)
 refine ⟨fun s hs t ht he=>?_,fun s hs=>?_,fun s hs r hr=>?_,h2,h⟩
 ·obtain ⟨i,hi,rfl⟩:=zB4 default hs
  obtain ⟨j,hj,rfl⟩:=zB4 default ht
  rcases Nat.lt_trichotomy i j with h5 | h5 | h5
  ·exact absurd he (hne i j h5 hj)
  ·rw [h5]
  exact absurd he.symm (hne j i h5 hi)
 ·have:=h3 s hs
  simp only [sortB,Bool.and_eq_true,decide_eq_true_eq] at this
  exact ⟨this.1.2,this.2⟩
 have:=h3 s hs
 simp only [sortB,Bool.and_eq_true,zB1] at this
 obtain ⟨i,hi,rfl⟩:=zB4 default hr
 exact (this.1.1.1 i hi).1
def RelOk (ss:List zBU) (r:Str×List Int) : Prop:=∃ s∈ss,s.1=r.1∧s.2.length=r.2.length
def keys {α:Type}(x:List (Int×α)) : List Int:=x.map (·.1)
structure IW (ss:List zBU) (B:Int) (w:PW) : Prop where
 srt : w.1=ss
 on : (keys w.2.1).Nodup
 ok : ∀ k∈keys w.2.1,1≤k∧k < w.2.2.2.1
 ol : w.2.1.length≤500
 rn : (keys w.2.2.1).Nodup
 rk : ∀ e∈w.2.2.1,1≤e.1∧e.1 < w.2.2.2.2∧e.2.1=e.1∧RelOk ss e.2.2∧∀ o∈e.2.2.2,o∈keys w.2.1
 no : 1≤w.2.2.2.1∧w.2.2.2.1≤B
 nr : 1≤w.2.2.2.2∧w.2.2.2.2≤B
 ot : ∀ e∈w.2.1,e.2.1=e.1∧e.2.2.2.length≤1000
theorem IW.mono {ss:List zBU}{B C:Int}{w:PW}(h:IW ss B w) (hC:B≤C) : IW ss C w :=
 ⟨h.srt,h.on,h.ok,h.ol,h.rn,h.rk,⟨h.no.1,by have:=h.no.2; omega⟩,⟨h.nr.1,by have:=h.nr.2; omega⟩,h.ot⟩
theorem IW.rkey {ss:List zBU}{B:Int}{w:PW}(h:IW ss B w) : ∀ k∈keys w.2.2.1,1≤k∧k < w.2.2.2.2:=fun k hk=>by
 obtain ⟨e,he,rfl⟩:=List.mem_map.1 hk
 have:=h.rk e he; exact ⟨this.1,this.2.1⟩
theorem IW.rlen {ss:List zBU}{B:Int}{w:PW}(h:IW ss B w) (hB:B≤1000000) : w.2.2.1.length≤1000000:=by
 have h1:=nodup_range h.rn h.rkey
 have:=h.nr
 rcases h1 with h1 | h1
 ·rw [keys,List.length_map] at h1; omega
 have : w.2.2.1.length=0:=by rw [← List.length_map (f:=(·.1))]; show (keys w.2.2.1).length=0; rw [h1]; rfl
 omega
theorem IW.new {p:List zBU} : IW p 1 (p,[],[],1,1) :=
 ⟨rfl,List.nodup_nil,fun k hk=>by simp [keys] at hk,by simp,List.nodup_nil,fun e he=>by simp at he,⟨Int.le_refl _,Int.le_refl _⟩,⟨Int.le_refl _,Int.le_refl _⟩,fun e he=>by simp at he⟩
def zBX (w:PW) (k:Int) : Int×Str×List Int:=(mget w.2.2.1 k).getD (0,([] : Str),[])
theorem zCR {w:PW}(hn:(keys w.2.2.1).Nodup){k:Int}(hk:k∈keys w.2.2.1) : (k,zBX w k)∈w.2.2.1:=by
 have h:=zBk.1 hk
 obtain ⟨v,hv⟩:=Option.isSome_iff_exists.1 h
 rw [zBX,hv]; exact mget_mem hv
theorem f75_t {ss:List zBU}{w:PW}(hw:w.1=ss) (nm:Str) : Tot (f75 w nm) fun r=>(r=none∧∀ s∈ss,s.1≠nm)∨∃ s∈ss,s.1=nm∧r=some s:=by
 subst hw
 unfold f75
 refine (f79_t (fun s=>decide (s.1=nm)) (fun x _=>rfl)).bind fun r hr=>?_
 refine zAR (fun h=>zAB (.inl ⟨rfl,fun s hs=>?_⟩)) (fun h=>?_)
 ·rcases hr with ⟨rfl,h1⟩ | ⟨i,rfl,_⟩
  ·have:=h1 s hs; simpa using this
  simp at h; omega
 rcases hr with ⟨rfl,h1⟩ | ⟨i,rfl,hi,h1,_⟩
 ·simp at h
 refine zA2 hi (zAB (.inr ⟨_,zBV hi,by simpa using h1,rfl⟩))
theorem f75o_t {ss:List zBU}{w:PW}(hw:w.1=ss) (nm:Str) : Tot (f75o w nm) fun r=>(r=none∧∀ s∈ss,s.1≠nm)∨∃ s∈ss,s.1=nm∧r=some s:=f75_t hw nm
theorem f75_rel {ss:List zBU}(hS:SS ss){w:PW}(hw:w.1=ss){r:Str×List Int}(hr:RelOk ss r) : Tot (f75 w r.1) fun o=>∃ s∈ss,s.1=r.1∧s.2.length=r.2.length∧o=some s:=by
 obtain ⟨s,hs,h1,h2⟩:=hr
 refine (f75_t hw r.1).mono fun o ho=>?_
 rcases ho with ⟨_,h3⟩ | ⟨t,ht,h3,rfl⟩
 ·exact absurd h1 (h3 s hs)
 have : t=s:=hS.uniq t ht s hs (h3.trans h1.symm)
 subst this; exact ⟨_,ht,h3,h2,rfl⟩
def Asked (w:PW) (l:List Int) (r:Int) : Prop:=(r=7∧∃ k∈l,k < 0)∨(r=8∧(∀ k∈l,0≤k)∧∃ k∈l,k∉keys w.2.1)∨(r=0∧(∀ k∈l,0≤k)∧∀ k∈l,k∈keys w.2.1)
theorem f50_t (w:PW) (l:List Int) : Tot (f50 w l) (Asked w l):=by
 unfold f50
 rw [f66_eq (q:=fun y1=>f97 y1) (fun x=>decide (x < 0)) (fun x _=>rfl)]
 simp only [Option.bind_some]
 refine zAR (fun h=>zAB (.inl ⟨rfl,?_⟩)) (fun h=>?_)
 ·obtain ⟨x,hx,h1⟩:=List.any_eq_true.1 h
  exact ⟨x,hx,by simpa using h1⟩
 have h0 : ∀ k∈l,0≤k:=fun k hk=>by
  have:=(List.any_eq_false.1 h) k hk
  simp only [decide_eq_true_eq] at this; omega
 refine (zCE (g:=f50_b0 w l) (fun k=>!(mget w.2.1 k).isSome) (fun _=>()) (fun i s=>rfl)).bind fun o ho=>?_
 rcases ho with ⟨rfl,h1⟩ | ⟨i,hi,rfl,h1,_⟩
 ·refine zAB (.inr (.inr ⟨rfl,h0,fun k hk=>zBk.2 ?_⟩))
  have:=(List.any_eq_false.1 h1) k hk
  simpa only [Bool.not_eq_true,Bool.not_eq_false'] using this
 refine zAB (.inr (.inl ⟨rfl,h0,l.getD i default,zBV hi,fun hk=>?_⟩))
 rw [zBk.1 hk] at h1; cases h1
theorem f60_eq (l:List Int) (h:l.length≤1000000) : f60 l=some l:=by
 unfold f60
 rw [zBf (by simp only [List.length_nil,Nat.zero_add]; omega)]; rfl
theorem f13_t {ss:List zBU}{B:Int}{w:PW}(h:IW ss B w) (hB:B≤1000000) : f13 w=some (zBT (keys w.2.2.1)):=by
 unfold f13
 simp only [zBs,Option.bind_some]
 rw [skeys_t h.rn h.rkey (by have:=h.nr; omega)]; rfl
theorem f109_t {ss:List zBU}{B:Int}{w:PW}(h:IW ss B w) (hB:B≤1000000){nm:Str}{z:Int}(hz:0≤z) (hl:∀ e∈w.2.2.1,e.2.2.1=nm→z < e.2.2.2.length){v:Int}{σ R:Type}{q:σ→(Int×(Int×Str×List Int))→Option (σ ⊕ R)}{s0:σ}(Inv:Nat→σ→Prop) (h0:Inv 0 s0) (hm:∀ i s,Inv i s→Inv (i+1) s) (hq:∀ i s e,i < w.2.2.1.length→Inv i s→e∈w.2.2.1→e.2.2.1=nm→Tot (q s e) fun o=>∃ s',o=.inl s'∧Inv (i+1) s') : Tot (f109 q s0 w nm z v) fun o=>∃ s,o=.inl s∧Inv w.2.2.1.length s:=by
 unfold f109
 simp only [zBs,Option.bind_some]
 rw [skeys_t h.rn h.rkey (by have:=h.nr; omega)]
 have hlen : (zBT (keys w.2.2.1)).length=w.2.2.1.length:=by rw [zCN,keys,List.length_map]
 simp only [Option.bind_some]
 rw [zBS,show (zBT (w.2.2.1.map (·.1))).length=w.2.2.1.length from hlen]
 refine (zAq (n:=w.2.2.1.length) Inv h0 fun i s hi hs=>?_).bind fun o ho=>?_
 ·unfold f109_b0
  refine zA2 (show i < (zBT (keys w.2.2.1)).length by rw [hlen]; exact hi) ?_
  have hk : (zBT (keys w.2.2.1)).getD i default∈keys w.2.2.1:=zBv.1 (zBV (by rw [hlen]; exact hi))
  have he:=zCR h.rn hk
  show Tot (bif (!(decide ((zBX w ((zBT (keys w.2.2.1)).getD i default)).2.1=nm))||Option.isSome (ix (zBX w ((zBT (keys w.2.2.1)).getD i default)).2.2 z)) then
    bif (decide ((zBX w ((zBT (keys w.2.2.1)).getD i default)).2.1=nm))&&(decide (((ix (zBX w ((zBT (keys w.2.2.1)).getD i default)).2.2 z).getD default)=v)) then
     ((q s ((zBT (keys w.2.2.1)).getD i default,zBX w ((zBT (keys w.2.2.1)).getD i default))).bind fun o18=>match o18 with
      | .inl s20=>(some (.inl s20) : Option (σ ⊕ R))
      | .inr r21=>(some (.inr r21) : Option (σ ⊕ R)))
    else (some (.inl s) : Option (σ ⊕ R)) else none) _
  generalize zBX w ((zBT (keys w.2.2.1)).getD i default)=r at he
  generalize (zBT (keys w.2.2.1)).getD i default=k at he
  refine zAi ?_ (zAR (fun h1=>?_) fun h1=>zAB ⟨_,rfl,hm i s hs⟩)
  ·by_cases hn : r.2.1=nm
   ·have:=hl _ he hn
    rw [ix_int hz this]; simp
   simp [hn]
  rw [Bool.and_eq_true,decide_eq_true_eq] at h1
  refine (hq i s _ hi hs he h1.1).bind fun o ho=>?_
  obtain ⟨s',rfl,h2⟩:=ho
  exact zAB ⟨_,rfl,h2⟩
 obtain ⟨s',rfl,h2⟩:=ho
 exact zAB ⟨_,rfl,h2⟩
theorem rel_len {ss:List zBU}(hS:SS ss){B:Int}{w:PW}(h:IW ss B w){s:zBU}(hs:s∈ss){e:Int×Int×Str×List Int}(he:e∈w.2.2.1) (hn:e.2.2.1=s.1) : e.2.2.2.length=s.2.length:=by
 obtain ⟨t,ht,h1,h2⟩:=(h.rk e he).2.2.2.1
 have : t=s:=hS.uniq t ht s hs (h1.trans hn)
 rw [← h2,this]
abbrev RelE:=Int×Int×Str×List Int
def hit (nm:Str) (i:Nat) (o:Int) (e:RelE) : Bool:=decide (e.2.2.1=nm)&&decide (e.2.2.2.getD i default=o)
def cnt (x:List RelE) (nm:Str) (i:Nat) (o:Int) : Nat:=(x.filter (hit nm i o)).length
theorem nodup_of_keys {β:Type}{x:List (Int×β)}(h:(keys x).Nodup) : x.Nodup :=
 List.Pairwise.of_map (S:=(·≠·)) (·.1) (fun a b h1 h2=>h1 (congrArg _ h2)) h
theorem cnt_sub {x y:List RelE}{nm:Str}{i:Nat}{o:Int}(hn:(keys y).Nodup) (h:∀ e∈y,hit nm i o e=true→e∈x) : cnt y nm i o≤cnt x nm i o:=by
 unfold cnt
 refine zBj ((nodup_of_keys hn).filter _) fun e he=>?_
 rw [List.mem_filter] at he ⊢
 exact ⟨h e he.1 he.2,he.2⟩
def relL (w:PW) : List RelE:=(zBT (keys w.2.2.1)).map fun k=>(k,zBX w k)
theorem relL_len (w:PW) : (relL w).length=w.2.2.1.length:=by rw [relL,List.length_map,zCN,keys,List.length_map]
theorem relL_keys (w:PW) : keys (relL w)=zBT (keys w.2.2.1):=by
 rw [relL,keys,List.map_map]
 exact List.map_id _
theorem relL_mem {w:PW}(hn:(keys w.2.2.1).Nodup){e:RelE} : e∈relL w↔e∈w.2.2.1:=by
 rw [relL,List.mem_map]
 constructor
 ·rintro ⟨k,hk,rfl⟩
  exact zCR hn (zBv.1 hk)
 intro he
 refine ⟨e.1,zBv.2 (List.mem_map.2 ⟨e,he,rfl⟩),?_⟩
 rw [zBX,mem_mget hn he]; rfl
theorem relL_nodup {w:PW}(hn:(keys w.2.2.1).Nodup) : (keys (relL w)).Nodup:=by
 rw [relL_keys]; exact (zBw _).nodup_iff.2 hn
theorem relL_cnt {w:PW}(hn:(keys w.2.2.1).Nodup){nm:Str}{i:Nat}{o:Int} : cnt (relL w) nm i o=cnt w.2.2.1 nm i o :=
 Nat.le_antisymm (cnt_sub (relL_nodup hn) fun e he _=>(relL_mem hn).1 he) (cnt_sub hn fun e he _=>(relL_mem hn).2 he)
theorem getD_map {α β:Type} [Inhabited α] {l:List α}{f:α→β}{i:Nat}{d:β}(h:i < l.length) : (l.map f).getD i d=f (l.getD i default):=by
 simp only [List.getD_eq_getElem?_getD,List.getElem?_map,List.getElem?_eq_getElem h,Option.map_some,Option.getD_some]
theorem relL_at {w:PW}{i:Nat}(hi:i < w.2.2.1.length) : (relL w).getD i default=((zBT (keys w.2.2.1)).getD i default,zBX w ((zBT (keys w.2.2.1)).getD i default)) :=
 getD_map (by rw [zCN,keys,List.length_map]; exact hi)
theorem f109_g {ss:List zBU}{B:Int}{w:PW}(h:IW ss B w) (hB:B≤1000000){nm:Str}{j:Nat}(hl:∀ e∈w.2.2.1,e.2.2.1=nm→j < e.2.2.2.length){v:Int}{σ R:Type}{q:σ→(Int×(Int×Str×List Int))→Option (σ ⊕ R)}{s0:σ}(Inv:Nat→σ→Prop) (h0:Inv 0 s0) (hq:∀ i s,i < w.2.2.1.length→Inv i s→(hit nm j v ((relL w).getD i default)=true→Tot (q s ((relL w).getD i default)) fun o=>∃ s',o=.inl s'∧Inv (i+1) s')∧(hit nm j v ((relL w).getD i default)=false→Inv (i+1) s)) : Tot (f109 q s0 w nm (j:Int) v) fun o=>∃ s,o=.inl s∧Inv w.2.2.1.length s:=by
 unfold f109
 simp only [zBs,Option.bind_some]
 rw [skeys_t h.rn h.rkey (by have:=h.nr; omega)]
 have hlen : (zBT (keys w.2.2.1)).length=w.2.2.1.length:=by rw [zCN,keys,List.length_map]
 simp only [Option.bind_some]
 rw [zBS,show (zBT (w.2.2.1.map (·.1))).length=w.2.2.1.length from hlen]
 refine (zAq (n:=w.2.2.1.length) Inv h0 fun i s hi hs=>?_).bind fun o ho=>?_
 ·have hq':=hq i s hi hs
  rw [relL_at hi] at hq'
  unfold f109_b0
  refine zA2 (show i < (zBT (keys w.2.2.1)).length by rw [hlen]; exact hi) ?_
  have hk : (zBT (keys w.2.2.1)).getD i default∈keys w.2.2.1:=zBv.1 (zBV (by rw [hlen]; exact hi))
  have he:=zCR h.rn hk
  show Tot (bif (!(decide ((zBX w ((zBT (keys w.2.2.1)).getD i default)).2.1=nm))||Option.isSome (ix (zBX w ((zBT (keys w.2.2.1)).getD i default)).2.2 (j:Int))) then
    bif (decide ((zBX w ((zBT (keys w.2.2.1)).getD i default)).2.1=nm))&&(decide (((ix (zBX w ((zBT (keys w.2.2.1)).getD i default)).2.2 (j:Int)).getD default)=v)) then
     ((q s ((zBT (keys w.2.2.1)).getD i default,zBX w ((zBT (keys w.2.2.1)).getD i default))).bind fun o18=>match o18 with
      | .inl s20=>(some (.inl s20) : Option (σ ⊕ R))
      | .inr r21=>(some (.inr r21) : Option (σ ⊕ R)))
    else (some (.inl s) : Option (σ ⊕ R)) else none) _
  generalize (zBT (keys w.2.2.1)).getD i default=k at he hq' ⊢
  generalize zBX w k=r at he hq' ⊢
  have hh : (decide (r.2.1=nm)&&decide (((ix r.2.2 (j:Int)).getD default)=v))=hit nm j v (k,r):=by
   unfold hit
   by_cases hn : r.2.1=nm
   ·have:=hl _ he hn
    rw [zBW this]; simp
   simp [hn]
  rw [hh]
  refine zAi ?_ (zAR (fun h1=>?_) fun h1=>zAB ⟨_,rfl,hq'.2 h1⟩)
  ·by_cases hn : r.2.1=nm
   ·have:=hl _ he hn
    rw [zBW this]; simp
   simp [hn]
  refine (hq'.1 h1).bind fun o ho=>?_
  obtain ⟨s',rfl,h2⟩:=ho
  exact zAB ⟨_,rfl,h2⟩
 obtain ⟨s',rfl,h2⟩:=ho
 exact zAB ⟨_,rfl,h2⟩
theorem filter_snoc {α:Type} [Inhabited α] {l:List α}{f:α→Bool}{i:Nat}(hi:i < l.length) : (l.take (i+1)).filter f=(l.take i).filter f++if f (l.getD i default) then [l.getD i default] else []:=by
 rw [zCx default hi,List.filter_append]
 congr 1
 generalize l.getD i default=x
 cases h : f x <;> simp [h]
theorem f105_eq {ss:List zBU}{B:Int}{w:PW}(h:IW ss B w) (hB:B≤1000000){nm:Str}{j:Nat}(hl:∀ e∈w.2.2.1,e.2.2.1=nm→j < e.2.2.2.length) (v:Int) : f105 w v nm (j:Int)=some (cnt w.2.2.1 nm j v : Int):=by
 have h1 : Tot (f105 w v nm (j:Int)) (·=(cnt w.2.2.1 nm j v : Int)):=by
  unfold f105
  refine (zBN (show f65 w v nm (j:Int)=some () from rfl)).bind fun _ _=>?_
  have hr:=h.rlen hB
  refine (f109_g h hB hl (q:=f105_b0) (fun i s=>s=((((relL w).take i).filter (hit nm j v)).length : Int)) (by simp) (fun i s hi hs=>?_)).bind fun o ho=>?_
  ·subst hs
   rw [filter_snoc (by rw [relL_len]; exact hi)]
   have hle : (((relL w).take i).filter (hit nm j v)).length≤i:=Nat.le_trans (List.length_filter_le _ _) (by rw [List.length_take]; omega)
   refine ⟨fun h2=>?_,fun h2=>?_⟩
   ·rw [if_pos h2]
    unfold f105_b0
    refine zAB ⟨_,rfl,?_⟩
    rw [w64_id (by constructor <;> omega),List.length_append]; simp
   rw [h2]; simp
  obtain ⟨s,rfl,hs⟩:=ho
  refine zAB ?_
  rw [hs,← relL_cnt h.rn,cnt,List.take_of_length_le (by rw [relL_len]; exact Nat.le_refl _)]
 exact h1.eq
def MX (ss:List zBU) (x:List RelE) : Prop:=∀ s∈ss,∀ i,i < s.2.length→0 < (s.2.getD i default).2.2.1→∀ o,(cnt x s.1 i o : Int)≤(s.2.getD i default).2.2.1
theorem MX.nil {ss:List zBU}(hS:SS ss) : MX ss []:=fun s hs i hi h0 o=>by
 show ((0:Nat) : Int)≤_; omega
theorem MX.sub {ss:List zBU}{x y:List RelE}(h:MX ss x) (hn:(keys y).Nodup) (hs:∀ e∈y,e∈x) : MX ss y:=fun s hs' i hi h0 o=>by
 have h1:=h s hs' i hi h0 o
 have h2 : cnt y s.1 i o≤cnt x s.1 i o:=cnt_sub hn fun e he _=>hs e he
 omega
def NotFull (ss:List zBU) (x:List RelE) (e:RelE) : Prop:=∀ s∈ss,s.1=e.2.2.1→∀ i,i < s.2.length→0 < (s.2.getD i default).2.2.1→(cnt x s.1 i (e.2.2.2.getD i default) : Int)≤(s.2.getD i default).2.2.1
theorem MX.add {ss:List zBU}{x y:List RelE}(h:MX ss x) (hn:(keys y).Nodup) (hs:∀ e∈y,e∈x∨NotFull ss y e) : MX ss y:=fun s hs' i hi h0 o=>by
 by_cases hc : ∃ e∈y,hit s.1 i o e=true∧NotFull ss y e
 ·obtain ⟨e,he,h1,h2⟩:=hc
  simp only [hit,Bool.and_eq_true,decide_eq_true_eq] at h1
  have h3:=h2 s hs' h1.1.symm i hi h0
  rw [h1.2] at h3; exact h3
 have h1:=h s hs' i hi h0 o
 have h2 : cnt y s.1 i o≤cnt x s.1 i o:=cnt_sub hn fun e he h3=>by
  rcases hs e he with h4 | h4
  ·exact h4
  exact absurd ⟨e,he,h3,h4⟩ hc
 omega
theorem f63_full {ss:List zBU}(hS:SS ss){B:Int}{w:PW}(h:IW ss B w) (hB:B≤1000000){e:RelE}(hr:RelOk ss e.2.2) : Tot (f63 w e.2) fun b=>b=false→NotFull ss w.2.2.1 e:=by
 unfold f63
 refine (f75_rel hS h.srt hr).bind fun o ho=>?_
 obtain ⟨s,hs,h1,h2,rfl⟩:=ho
 simp only [Option.bind_some]
 rw [zBS]
 refine (zA1 (fun i _=>∀ j,j < i→0 < (s.2.getD j default).2.2.1→(cnt w.2.2.1 s.1 j (e.2.2.2.getD j default) : Int)≤(s.2.getD j default).2.2.1) (fun _=>True) (fun j hj=>absurd hj (by omega)) fun i u hi hs'=>?_).bind fun o ho=>?_
 ·unfold f63_b0
  refine zA2 hi ?_
  have hx : ix e.2.2.2 (i:Int)=some (e.2.2.2.getD i default):=zBW (by omega)
  rw [hx]
  have hc:=f105_eq h hB (nm:=e.2.2.1) (j:=i) (fun e' he hn=>by
   have:=rel_len hS h hs he (hn.trans h1.symm)
   omega) (e.2.2.2.getD i default)
  simp only [Option.getD_some,hc,Option.isSome_some,Bool.or_true,cond_true]
  refine zAR (fun _=>zAB (.inr ⟨_,rfl,trivial⟩)) (fun h3=>zAB (.inl ⟨_,rfl,fun j hj h4=>?_⟩))
  rcases Nat.lt_or_ge j i with h5 | h5
  ·exact hs' j h5 h4
  have : j=i:=by omega
  subst this
  simp only [Bool.and_eq_false_iff,decide_eq_false_iff_not] at h3
  rw [h1]; omega
 rcases ho with ⟨_,rfl,h3⟩ | ⟨_,rfl,_⟩
 ·refine zAB fun _ t ht h4=>?_
  have : t=s:=hS.uniq t ht s hs (h4.trans h1.symm)
  subst this; exact h3
 exact zAB fun h=>by cases h
theorem zCb {z:Int}(h0:-1000000000≤z) (h:z≤1000000000) : w64 z=z:=w64_id (by constructor <;> omega)
theorem f72_eq (n:Int) : f72 n=some (decide (0≤n)&&decide (n≤1000)):=rfl
theorem IW.addO {ss:List zBU}{B:Int}{w:PW}(h:IW ss B w) (hB:B≤1000000) (hl:w.2.1.length≠500){v:Int×Int×Str}(hv:v.1=w.2.2.2.1∧v.2.2.length≤1000) : IW ss (B+1) (w.1,mset w.2.1 w.2.2.2.1 v,w.2.2.1,w64 (w.2.2.2.1+1),w.2.2.2.2):=by
 have hn:=h.no
 have hr:=h.nr
 rw [zCb (by omega) (by omega)]
 refine ⟨h.srt,zBZ _ _ h.on,fun k hk=>?_,?_,h.rn,fun e he=>?_,⟨?_,?_⟩,⟨hr.1,by show w.2.2.2.2≤B+1; omega⟩,fun e he=>?_⟩
 ·rcases zBc.1 hk with h1 | h1
  ·subst h1; show 1≤w.2.2.2.1∧w.2.2.2.1 < w.2.2.2.1+1; omega
  have:=h.ok k h1; show 1≤k∧k < w.2.2.2.1+1; omega
 ·have:=mset_length (x:=w.2.1) (k:=w.2.2.2.1) (v:=v)
  have:=h.ol
  show (mset w.2.1 w.2.2.2.1 v).length≤500; omega
 ·obtain ⟨h1,h2,h3,h4,h5⟩:=h.rk e he
  exact ⟨h1,h2,h3,h4,fun o ho=>zBc.2 (.inr (h5 o ho))⟩
 ·show 1≤w.2.2.2.1+1; omega
 ·show w.2.2.2.1+1≤B+1; omega
 rcases mset_mem he with h1 | h1
 ·subst h1; exact hv
 exact h.ot e h1
theorem f23_t {ss:List zBU}{B:Int}{w:PW}(h:IW ss B w) (hB:B≤1000000) (p1:Int) (p2:Str) : Tot (f23 w p1 p2) fun r=>IW ss (B+1) r.2.2∧(∀ k∈keys w.2.1,k∈keys r.2.2.2.1)∧r.2.2.2.2.1=w.2.2.1∧(r.1=0∨r.1∈keys r.2.2.2.1):=by
 have hm:=h.mono (C:=B+1) (by omega)
 unfold f23
 refine zAR (fun _=>zAB ⟨hm,fun k hk=>hk,rfl,.inl rfl⟩) (fun hx=>?_)
 rw [f72_eq]
 simp only [Option.bind_some]
 refine zAR (fun _=>zAB ⟨hm,fun k hk=>hk,rfl,.inl rfl⟩) (fun _=>?_)
 refine zAR (fun _=>zAB ⟨hm,fun k hk=>hk,rfl,.inl rfl⟩) (fun hl=>?_)
 refine zAB ⟨h.addO hB (by simp only [decide_eq_false_iff_not] at hl; omega) ⟨rfl,by simp only [Bool.false_or,decide_eq_false_iff_not] at hx; show p2.length≤1000; omega⟩,fun k hk=>zBc.2 (.inr hk),rfl,.inr (zBc.2 (.inl rfl))⟩
theorem zCL {ss:List zBU}(hS:SS ss){r:Str×List Int}(hr:RelOk ss r) : 2≤r.2.length∧r.2.length≤3:=by
 obtain ⟨s,hs,_,h2⟩:=hr
 have:=hS.len s hs; omega
theorem f62_eq (w:PW) (p1:Str) (p2:List Int) (hl:p2.length≤1000) : f62 w p1 p2=some (w.2.2.2.2,(w.1,w.2.1,mset w.2.2.1 w.2.2.2.2 (w.2.2.2.2,p1,p2),w.2.2.2.1,w64 (w.2.2.2.2+1))):=by
 unfold f62; rw [f60_eq _ (by omega)]; rfl
theorem IW.addR {ss:List zBU}{B:Int}{w:PW}(h:IW ss B w) (hB:B≤1000000){p1:Str}{p2:List Int}(hr:RelOk ss (p1,p2)) (ho:∀ o∈p2,o∈keys w.2.1) : IW ss (B+1) (w.1,w.2.1,mset w.2.2.1 w.2.2.2.2 (w.2.2.2.2,p1,p2),w.2.2.2.1,w64 (w.2.2.2.2+1)):=by
 have hn:=h.no
 have hk:=h.nr
 rw [zCb (by omega) (by omega)]
 refine ⟨h.srt,h.on,h.ok,h.ol,zBZ _ _ h.rn,fun e he=>?_,⟨hn.1,by show w.2.2.2.1≤B+1; omega⟩,⟨?_,?_⟩,h.ot⟩
 ·rcases mset_mem he with h1 | h1
  ·subst h1
   refine ⟨hk.1,?_,rfl,hr,ho⟩
   show w.2.2.2.2 < w.2.2.2.2+1; omega
  obtain ⟨h1,h2,h3,h4,h5⟩:=h.rk e h1
  refine ⟨h1,?_,h3,h4,h5⟩
  show e.1 < w.2.2.2.2+1; omega
 ·show 1≤w.2.2.2.2+1; omega
 show w.2.2.2.2+1≤B+1; omega
theorem f73_some {p:Str}(h:p.length≤100000) : Option.isSome (f73 p)=true:=by rw [f73_eq p h]; rfl
theorem len_sub {β:Type}{x y:List (Int×β)}(hn:(keys y).Nodup) (h:∀ e∈y,e.1∈keys x) : y.length≤x.length:=by
 have h1:=zBj (m:=keys x) hn fun k hk=>by
  obtain ⟨e,he,rfl⟩:=List.mem_map.1 hk
  exact h e he
 rw [keys,keys,List.length_map,List.length_map] at h1; exact h1
theorem f24_t {ss:List zBU}(hS:SS ss){B:Int}{w:PW}(h:IW ss B w) (hB:B≤999999) (hc:w.2.2.1.length≤1000){p1:Str}{p2:List Int}(hp:p1.length≤100000) : Tot (f24 w p1 p2) fun r=>IW ss (B+1) r.2.2∧r.2.2.2.2.1.length≤1000∧(MX ss w.2.2.1→MX ss r.2.2.2.2.1):=by
 have hm:=h.mono (C:=B+1) (by omega)
 unfold f24
 rw [f73_some hp]
 refine zAi (by simp) (zAR (fun _=>zAB ⟨hm,hc,fun h=>h⟩) (fun _=>?_))
 rw [f66_eq (q:=fun y1=>f74 y1) (fun x=>decide (x < 0)) (fun x _=>rfl)]
 simp only [Option.bind_some]
 refine zAR (fun _=>zAB ⟨hm,hc,fun h=>h⟩) (fun _=>?_)
 refine (f75o_t h.srt p1).bind fun x7 hx=>?_
 rcases hx with ⟨rfl,_⟩ | ⟨s,hs,h1,rfl⟩
 ·exact zAB ⟨hm,hc,fun h=>h⟩
 refine zAR (fun _=>zAB ⟨hm,hc,fun h=>h⟩) (fun _=>?_)
 refine (f50_t w p2).bind fun x10 hx=>?_
 refine zAR (fun _=>zAB ⟨hm,hc,fun h=>h⟩) (fun h0=>?_)
 have h0' : x10=0:=by simpa using h0
 have ho : ∀ k∈p2,k∈keys w.2.1:=by
  rcases hx with ⟨h2,_⟩ | ⟨h2,_⟩ | ⟨_,_,h2⟩
  ·omega
  ·omega
  exact h2
 simp only [Option.bind_some]
 refine zAR (fun _=>zAB ⟨hm,hc,fun h=>h⟩) (fun hl=>?_)
 have hl' : p2.length=s.2.length:=by
  simp only [Bool.not_eq_false',decide_eq_true_eq] at hl; omega
 have hr : RelOk ss (p1,p2):=⟨s,hs,h1,hl'.symm⟩
 have h3:=zCL hS hr
 rw [f62_eq w p1 p2 (by have:=h3.2; simp only at this; omega)]
 simp only [Option.bind_some]
 have hI:=h.addR (by omega) hr ho
 rw [zC1,if_pos rfl]
 simp only [Option.getD_some]
 have hv : Tot ((f63 (w.1,w.2.1,mset w.2.2.1 w.2.2.2.2 (w.2.2.2.2,p1,p2),w.2.2.2.1,w64 (w.2.2.2.2+1)) (w.2.2.2.2,p1,p2)).bind fun x21 =>
   bif x21 then
    (some (.inl 9))
   else
    (bif decide (1000 < (List.length (mset w.2.2.1 w.2.2.2.2 (w.2.2.2.2,p1,p2)) : Int)) then
     (some (.inl 4))
    else
     (some (.inl 0) : Option (Int ⊕ Unit)))) fun o=>∃ n,o=.inl n∧(n=0→(mset w.2.2.1 w.2.2.2.2 (w.2.2.2.2,p1,p2)).length≤1000∧NotFull ss (mset w.2.2.1 w.2.2.2.2 (w.2.2.2.2,p1,p2)) (w.2.2.2.2,w.2.2.2.2,p1,p2)):=by
  refine (f63_full hS hI (by omega) (e:=(w.2.2.2.2,w.2.2.2.2,p1,p2)) hr).bind fun b hb=>?_
  exact zAR (fun _=>⟨_,rfl,_,rfl,fun h=>absurd h (by decide)⟩) (fun hb0=>zAR (fun _=>⟨_,rfl,_,rfl,fun h=>absurd h (by decide)⟩) (fun h8=>⟨_,rfl,_,rfl,fun _=>⟨by have:=of_decide_eq_false h8; omega,hb hb0⟩⟩))
 refine hv.bind fun o ho=>?_
 obtain ⟨n,rfl,hn0⟩:=ho
 have hd : ∀ e∈mdel (mset w.2.2.1 w.2.2.2.2 (w.2.2.2.2,p1,p2)) w.2.2.2.2,e∈w.2.2.1:=fun e he=>by
  have h4:=(zCo (zBZ _ _ h.rn)).1 he
  rcases mset_mem h4.1 with h5 | h5
  ·rw [h5] at h4; exact absurd rfl h4.2
  exact h5
 refine zAR (fun _=>zAB ⟨?_,?_,fun h7=>h7.sub (zCC _ (zBZ _ _ h.rn)) hd⟩) (fun h6=>zAB ⟨hI,(hn0 (by simpa using h6)).1,fun h7=>h7.add (zBZ _ _ h.rn) fun e he=>(mset_mem he).elim (fun h8=>.inr (h8 ▸ (hn0 (by simpa using h6)).2)) .inl⟩)
 rotate_left
 ·exact Nat.le_trans (len_sub (zCC _ (zBZ _ _ h.rn)) fun e he=>List.mem_map.2 ⟨e,hd e he,rfl⟩) hc
 have hn:=h.no
 have hk:=h.nr
 simp only
 rw [zCb (z:=w.2.2.2.2+1) (by omega) (by omega),zCb (by omega) (by omega)]
 refine ⟨h.srt,h.on,h.ok,h.ol,zCC _ (zBZ _ _ h.rn),fun e he=>?_,⟨hn.1,by show w.2.2.2.1≤B+1; omega⟩,⟨?_,?_⟩,h.ot⟩
 ·obtain ⟨h1,h2,h3,h4,h5⟩:=h.rk e (hd e he)
  refine ⟨h1,?_,h3,h4,h5⟩
  show e.1 < w.2.2.2.2+1 - 1; omega
 ·show 1≤w.2.2.2.2+1 - 1; omega
 show w.2.2.2.2+1 - 1≤B+1; omega
theorem f55_t {ss:List zBU}(hS:SS ss){B:Int}{w:PW}(h:IW ss B w) (k:Int) : Tot (f55 w k) fun r=>(r.2≠0∧k∉keys w.2.2.1)∨(r.2=0∧k∈keys w.2.2.1∧r.1=zBX w k):=by
 unfold f55
 refine zAR (fun h1=>zAB (.inl ⟨by show (7:Int)≠0; decide,fun hk=>?_⟩)) (fun h1=>?_)
 ·have:=h.rkey k hk; simp only [decide_eq_true_eq] at h1; omega
 refine zAR (fun h2=>zAB (.inl ⟨by show (8:Int)≠0; decide,fun hk=>?_⟩)) (fun h2=>?_)
 ·rw [zBk.1 hk] at h2; cases h2
 have hk : k∈keys w.2.2.1:=zBk.2 (by simpa using h2)
 have hr:=zCL hS (h.rk _ (zCR h.rn hk)).2.2.2.1
 have hf : f60 (zBX w k).2.2=some (zBX w k).2.2:=f60_eq _ (by have:=hr.2; simp only at this; omega)
 have hf' : f60 (((((mget w.2.2.1 k).getD (0,([] : Str),[]))).2).2)=some (zBX w k).2.2:=hf
 rw [hf']
 exact zAB (.inr ⟨rfl,hk,rfl⟩)
theorem f14_t {ss:List zBU}(hS:SS ss){B:Int}{w:PW}(h:IW ss B w) (k:Int) : Tot (f14 w k) fun r=>(r.2≠0∧k∉keys w.2.2.1)∨(r.2=0∧k∈keys w.2.2.1∧r.1=zBX w k):=by
 unfold f14
 exact (f55_t hS h k).bind fun r hr=>zAB hr
theorem IW.delR {ss:List zBU}{B:Int}{w:PW}(h:IW ss B w){x:List (Int×Int×Str×List Int)}(hx:∀ e∈x,e∈w.2.2.1) (hn:(keys x).Nodup) : IW ss B (w.1,w.2.1,x,w.2.2.2.1,w.2.2.2.2) :=
 ⟨h.srt,h.on,h.ok,h.ol,hn,fun e he=>h.rk e (hx e he),h.no,h.nr,h.ot⟩
theorem f33_t {ss:List zBU}(hS:SS ss){B:Int}{w:PW}(h:IW ss B w) (k:Int) : Tot (f33 w k) fun r=>IW ss B r.2∧r.2.2.2.1.length≤w.2.2.1.length∧∀ e∈r.2.2.2.1,e∈w.2.2.1:=by
 unfold f33
 refine (f55_t hS h k).bind fun r hr=>?_
 exact zAR (fun _=>zAB ⟨h,Nat.le_refl _,fun e he=>he⟩) (fun _=>zAB ⟨h.delR (fun e he=>((zCo h.rn).1 he).1) (zCC _ h.rn),len_sub (zCC _ h.rn) fun e he=>List.mem_map.2 ⟨e,((zCo h.rn).1 he).1,rfl⟩,fun e he=>((zCo h.rn).1 he).1⟩)
theorem f17_t (w:PW) (k:Int) : Tot (f17 w k) fun _=>True:=by
 unfold f17 f57
 obtain ⟨x,hx,_⟩:=f50_t w [k]
 rw [hx]
 simp only [Option.bind_some]
 exact zAR (fun _=>zAB trivial) (fun _=>zAB trivial)
theorem f57_t (w:PW) (l:List Int) : Tot (f57 w l) (Asked w l):=by
 unfold f57
 exact (f50_t w l).bind fun r hr=>zAB hr
theorem f64_t {ss:List zBU}{w:PW}(hw:w.1=ss) (p1:Int){p2:Str}{p3:List Str}(h2:p2.length≤100000) (h3:∀ y∈p3,y.length≤100000) (hl:p3.length≤100) : Tot (f64 w p1 p2 p3) fun r=>r.1=0→∃ s∈ss,s.1=p2∧r.2.length=p3.length∧∀ z∈r.2,0≤z∧z < s.2.length:=by
 unfold f64
 have hf : f106 p3 (fun y1=>f107 y1)=some (p3.any fun y=>!zC5 y):=f106_eq _ (fun y hy=>by
  show (f73 y).bind _=_
  rw [f73_eq y (h3 y hy)]; rfl)
 rw [f73_some h2,hf]
 refine zAi (by simp) (zAi (by simp) (zAR (fun _=>zAB fun h=>absurd h (by decide)) (fun _=>zAR (fun _=>zAB fun h=>absurd h (by decide)) (fun _=>?_))))
 refine (f75_t hw p2).bind fun x6 hx=>?_
 rcases hx with ⟨rfl,_⟩ | ⟨s,hs,h4,rfl⟩
 ·exact zAB fun h=>absurd h (by decide)
 refine zAR (fun _=>zAB fun h=>absurd h (by decide)) (fun _=>?_)
 rw [zBS]
 refine (zA1 (fun i l=>l.length=i∧∀ z : Int,z∈l→0≤z∧z < s.2.length) (fun _=>True) ⟨rfl,fun z hz=>by simp at hz⟩ fun i l hi hl'=>?_).bind fun o ho=>?_
 ·unfold f64_b0
  refine zA2 hi ?_
  have h5 : Tot (f108 (some s) (p3.getD i default)) (Find s.2 fun y=>decide (y.1=p3.getD i default)):=by
   unfold f108
   exact (f112_t (q:=fun y1=>f122 y1 (p3.getD i default)) (fun y=>decide (y.1=p3.getD i default)) (fun y _=>rfl)).bind fun r hr=>zAB hr
  refine h5.bind fun r hr=>?_
  refine zAR (fun _=>zAB (.inr ⟨_,rfl,trivial⟩)) (fun h6=>?_)
  refine zAi (zBf (by rw [List.length_singleton]; omega)) (zAB (.inl ⟨_,rfl,by rw [List.length_append,hl'.1]; rfl,fun z hz=>?_⟩))
  rcases List.mem_append.1 hz with hz | hz
  ·exact hl'.2 z hz
  rw [List.mem_singleton] at hz; subst hz
  rcases hr with ⟨rfl,_⟩ | ⟨j,rfl,hj,_⟩
  ·simp at h6
  omega
 rcases ho with ⟨l,rfl,h5,h6⟩ | ⟨_,rfl,_⟩
 ·obtain ⟨x,hx,_⟩:=f50_t w [p1]
  simp only [hx,Option.bind_some]
  exact zAB fun _=>⟨s,hs,h4,h5,h6⟩
 exact zAB fun h=>absurd h (by decide)
theorem f19_t {ss:List zBU}(hS:SS ss){B:Int}{w:PW}(h:IW ss B w) (hB:B≤1000000) (p1:Int){p2 p3:Str}(h2:p2.length≤100000) (h3:p3.length≤100000) : Tot (f19 w p1 p2 p3) fun _=>True:=by
 unfold f19
 refine (f64_t h.srt p1 h2 (p3:=[p3]) (fun y hy=>by rw [List.mem_singleton] at hy; subst hy; exact h3) (by simp)).bind fun x hx=>?_
 refine zAR (fun _=>zAB trivial) (fun h0=>?_)
 obtain ⟨s,hs,h4,h5,h6⟩:=hx (by simpa using h0)
 have hl : 0 < x.2.length:=by rw [h5]; exact Nat.zero_lt_one
 refine tot_ixz (by omega) (by omega) ?_
 have h7:=h6 _ (zBV (d:=default) (j:=Int.toNat 0) (by simpa using hl))
 generalize x.2.getD (Int.toNat 0) default=z at h7
 refine (zBN (show f65 w p1 p2 z=some () from rfl)).bind fun _ _=>?_
 have hr:=h.rlen hB
 refine (f109_t h hB (nm:=p2) h7.1 (fun e he hn=>by have:=rel_len hS h hs he (hn.trans h4.symm); omega) (q:=f19_b0) (fun i l=>l.length≤i) (by simp) (fun i l hl=>Nat.le_succ_of_le hl) (fun i l e hi hl he hn=>?_)).bind fun o ho=>?_
 ·obtain ⟨a,b⟩:=e
  unfold f19_b0
  exact zAi (zBf (by rw [List.length_singleton]; omega)) (zAB ⟨_,rfl,by rw [List.length_append,List.length_singleton]; omega⟩)
 obtain ⟨l,rfl,_⟩:=ho
 exact zAB trivial
theorem isortI_len (l:List Int) : (zBT l).length=l.length:=zCN
theorem f38_t {ss:List zBU}(hS:SS ss){B:Int}{w:PW}(h:IW ss B w) (hB:B≤1000000) (p1:Int){p2 p3 p4:Str}(h2:p2.length≤100000) (h3:p3.length≤100000) (h4:p4.length≤100000) : Tot (f38 w p1 p2 p3 p4) fun _=>True:=by
 unfold f38
 refine (f64_t h.srt p1 h2 (p3:=[p3,p4]) (fun y hy=>by
  rcases List.mem_cons.1 hy with hy | hy
  ·subst hy; exact h3
  rw [List.mem_singleton] at hy; subst hy; exact h4) (by simp)).bind fun x hx=>?_
 refine zAR (fun _=>zAB trivial) (fun h0=>?_)
 obtain ⟨s,hs,h4,h5,h6⟩:=hx (by simpa using h0)
 have hl : x.2.length=2:=h5
 refine tot_ixz (by omega) (by omega) ?_
 have h7:=h6 _ (zBV (d:=default) (j:=Int.toNat 0) (show 0 < x.2.length by omega))
 generalize x.2.getD (Int.toNat 0) default=z at h7
 refine (zBN (show f65 w p1 p2 z=some () from rfl)).bind fun _ _=>?_
 have hr:=h.rlen hB
 refine (f109_t h hB (nm:=p2) h7.1 (fun e he hn=>by have:=rel_len hS h hs he (hn.trans h4.symm); omega) (q:=f38_b0 x) (fun i l=>l.length≤i) (by simp) (fun i l hl=>Nat.le_succ_of_le hl) (fun i l e hi hl' he hn=>?_)).bind fun o ho=>?_
 ·obtain ⟨a,b⟩:=e
  unfold f38_b0
  refine tot_ixz (by omega) (by omega) ?_
  have h8:=h6 _ (zBV (d:=default) (j:=Int.toNat 1) (show 1 < x.2.length by omega))
  have h9:=rel_len hS h hs he (hn.trans h4.symm)
  refine tot_ixz h8.1 (by show _ < ((b.2.2.length : Nat) : Int); simp only at h9; omega) ?_
  exact zAi (zBf (by rw [List.length_singleton]; omega)) (zAB ⟨_,rfl,by rw [List.length_append,List.length_singleton]; omega⟩)
 obtain ⟨l,rfl,h8⟩:=ho
 simp only
 have e1 : f88 l=some (zBT l):=by
  unfold f88
  rw [show Nat.blt l.length 4611686018427387904=true by rw [Nat.blt_eq]; omega]; rfl
 have e2 : f89 (zBT l)=some (compI (zBT l)):=by
  unfold f89
  rw [show Nat.ble (zBT l).length 9223372036854775807=true by rw [Nat.ble_eq,isortI_len]; omega]; rfl
 simp only [e1,e2,Option.bind_some]
 exact zAB trivial
def wayOf (a:Nat) (r:RoleT) : Int:=if a=94 then r.2.2.2.1 else if a=95 then r.2.2.2.2.1 else r.2.2.2.2.2
def WayN (a:Nat) : Prop:=a=94∨a=95∨a=96
theorem fdyn_eq {a:Nat}(h:WayN a) (r:RoleT) : fdyn a r=some (wayOf a r):=by
 rcases h with h | h | h <;> subst h <;> rfl
def zCd (ss:List zBU) (nm:Str) : zBU:=(ss.find? fun s=>decide (s.1=nm)).getD default
theorem sortFor_eq {ss:List zBU}(hS:SS ss){s:zBU}(hs:s∈ss) : zCd ss s.1=s:=by
 unfold zCd
 cases h : ss.find? fun t=>decide (t.1=s.1) with
 | none =>
  have:=(List.find?_eq_none.1 h) s hs
  simp at this
 | some t =>
  have h1:=List.find?_some h
  have h2:=List.mem_of_find?_eq_some h
  exact hS.uniq t h2 s hs (by simpa using h1)
theorem sortFor_rel {ss:List zBU}(hS:SS ss){r:Str×List Int}(hr:RelOk ss r) : zCd ss r.1∈ss∧(zCd ss r.1).1=r.1∧(zCd ss r.1).2.length=r.2.length:=by
 obtain ⟨s,hs,h1,h2⟩:=hr
 rw [← h1,sortFor_eq hS hs]; exact ⟨hs,rfl,h2⟩
theorem f75_for {ss:List zBU}(hS:SS ss){w:PW}(hw:w.1=ss){r:Str×List Int}(hr:RelOk ss r) : f75 w r.1=some (some (zCd ss r.1)):=by
 have h : Tot (f75 w r.1) (fun o=>o=some (zCd ss r.1)):=(f75_rel hS hw hr).mono fun o ho=>by
  obtain ⟨s,hs,h1,_,rfl⟩:=ho
  rw [← h1,sortFor_eq hS hs]
 exact h.eq
def zCw (ss:List zBU) (a:Nat) (r:Str×List Int) (i:Nat) : Int:=wayOf a ((zCd ss r.1).2.getD i default)
def Good (ss:List zBU) (a:Nat) (w:PW) (k x:Int) (D R:List Int) : Prop:=∀ i,i < (zBX w k).2.2.length→(zBX w k).2.2.getD i default=x→zCw ss a (zBX w k).2 i≠3→k∈R∧(zCw ss a (zBX w k).2 i=1→∀ o∈(zBX w k).2.2,o∈D)
def Touch (ss:List zBU) (a:Nat) (w:PW) (k:Int) (D:List Int) : Prop:=∃ i,i < (zBX w k).2.2.length∧(zBX w k).2.2.getD i default∈D∧zCw ss a (zBX w k).2 i≠3
theorem Good.mono {ss:List zBU}{a:Nat}{w:PW}{k x:Int}{D R D' R':List Int}(h:Good ss a w k x D R) (hD:∀ x∈D,x∈D') (hR:∀ x∈R,x∈R') : Good ss a w k x D' R':=fun i hi he hw =>
 ⟨hR _ (h i hi he hw).1,fun h1 o ho=>hD _ ((h i hi he hw).2 h1 o ho)⟩
theorem Touch.mono {ss:List zBU}{a:Nat}{w:PW}{k:Int}{D D':List Int}(h:Touch ss a w k D) (hD:∀ x∈D,x∈D') : Touch ss a w k D':=by
 obtain ⟨i,h1,h2,h3⟩:=h; exact ⟨i,h1,hD _ h2,h3⟩
abbrev BM:=List (Int×Bool)
def TS (d:BM) : Prop:=(keys d).Nodup∧∀ e∈d,e.2=true
theorem TS.get {d:BM}(h:TS d){x:Int} : (mget d x).getD false=true↔x∈keys d:=by
 constructor
 ·intro h1; rw [keys,zBk]; cases h2 : mget d x with
  | none=>rw [h2] at h1; cases h1
  | some v=>rfl
 intro h1
 obtain ⟨v,hv⟩:=Option.isSome_iff_exists.1 (zBk.1 h1)
 rw [hv]; exact h.2 _ (mget_mem hv)
theorem TS.set {d:BM}(h:TS d) (x:Int) : TS (mset d x true):=⟨zBZ _ _ h.1,fun e he=>by
 rcases mset_mem he with h1 | h1
 ·rw [h1]
 exact h.2 e h1⟩
theorem TS.nil : TS []:=⟨List.nodup_nil,fun e he=>by simp at he⟩
structure Ext (ss:List zBU) (a:Nat) (w:PW) (d r t:BM) (o:BM×BM×BM) : Prop where
 t : o.2.2=t
 td : TS o.1
 tr : TS o.2.1
 sd : ∀ x∈keys d,x∈keys o.1
 sr : ∀ x∈keys r,x∈keys o.2.1
 od : ∀ x∈keys o.1,x∈keys w.2.1
 ro : ∀ x∈keys o.2.1,x∈keys w.2.2.1
 good : ∀ x∈keys o.1,x∈keys d∨∀ k∈keys w.2.2.1,Good ss a w k x (keys o.1) (keys o.2.1)
 tch : ∀ k∈keys o.2.1,k∈keys r∨Touch ss a w k (keys o.1)
theorem Ext.refl {ss:List zBU}{a:Nat}{w:PW}{d r t:BM}(h1:TS d) (h2:TS r) (h3:∀ x∈keys d,x∈keys w.2.1) (h4:∀ x∈keys r,x∈keys w.2.2.1) : Ext ss a w d r t (d,r,t) :=
 ⟨rfl,h1,h2,fun x hx=>hx,fun x hx=>hx,h3,h4,fun x hx=>.inl hx,fun x hx=>.inl hx⟩
theorem Ext.trans {ss:List zBU}{a:Nat}{w:PW}{d r t:BM}{o o':BM×BM×BM}(h:Ext ss a w d r t o) (h':Ext ss a w o.1 o.2.1 t o') : Ext ss a w d r t o' :=
 ⟨h'.t,h'.td,h'.tr,fun x hx=>h'.sd x (h.sd x hx),fun x hx=>h'.sr x (h.sr x hx),h'.od,h'.ro,fun x hx=>by
  rcases h'.good x hx with h1 | h1
  ·rcases h.good x h1 with h2 | h2
   ·exact .inl h2
   exact .inr fun k hk=>(h2 k hk).mono h'.sd h'.sr
  ·exact .inr h1,fun k hk=>by
  rcases h'.tch k hk with h1 | h1
  ·rcases h.tch k h1 with h2 | h2
   ·exact .inl h2
   exact .inr (h2.mono h'.sd)
  exact .inr h1⟩
def miss (w:PW) (d:BM) : Nat:=((keys w.2.1).filter fun x=>!decide (x∈keys d)).length
theorem miss_le {w:PW}(hn:(keys w.2.1).Nodup){d d':BM}(h:∀ x∈keys d,x∈keys d') : miss w d'≤miss w d:=by
 refine zBj (hn.filter _) fun x hx=>?_
 simp only [List.mem_filter,Bool.not_eq_true',decide_eq_false_iff_not] at hx ⊢
 exact ⟨hx.1,fun h1=>hx.2 (h x h1)⟩
theorem miss_lt {w:PW}(hn:(keys w.2.1).Nodup){d d':BM}(h:∀ x∈keys d,x∈keys d'){p:Int}(hp:p∈keys w.2.1) (h1:p∉keys d) (h2:p∈keys d') : miss w d' < miss w d:=by
 have hm : p∈(keys w.2.1).filter fun x=>!decide (x∈keys d):=by
  simp only [List.mem_filter,Bool.not_eq_true',decide_eq_false_iff_not]; exact ⟨hp,h1⟩
 have h3 : miss w d'≤(((keys w.2.1).filter fun x=>!decide (x∈keys d)).erase p).length:=by
  refine zBj (hn.filter _) fun x hx=>?_
  simp only [List.mem_filter,Bool.not_eq_true',decide_eq_false_iff_not] at hx
  have hne : x≠p:=fun he=>hx.2 (he ▸ h2)
  rw [List.mem_erase_of_ne hne]
  simp only [List.mem_filter,Bool.not_eq_true',decide_eq_false_iff_not]
  exact ⟨hx.1,fun h4=>hx.2 (h x h4)⟩
 rw [List.length_erase_of_mem hm] at h3
 have:=List.length_pos_of_mem hm
 show miss w d' < ((keys w.2.1).filter fun x=>!decide (x∈keys d)).length
 omega
theorem f98_t {ss:List zBU}(hS:SS ss){B:Int}{w:PW}(h:IW ss B w) (hB:B≤1000000){a:Nat}(ha:WayN a) : ∀ (n:Nat) (p:Int) (d r t:BM),TS d→TS r→(∀ x∈keys d,x∈keys w.2.1)→(∀ x∈keys r,x∈keys w.2.2.1)→p∈keys w.2.1→miss w d < n→Tot (f98 n p d r t w a) fun o=>Ext ss a w d r t o∧p∈keys o.1:=by
 intro n
 induction n with
 | zero=>intro p d r t _ _ _ _ _ hm; omega
 | succ n ih =>
  intro p d r t hd hr hdo hro hp hm
  show Tot (f98_r (f98 n) p d r t w a) _
  unfold f98_r
  refine zAR (fun h1=>zAB ⟨Ext.refl hd hr hdo hro,hd.get.1 h1⟩) (fun h1=>?_)
  have hpd : p∉keys d:=fun h2=>by rw [hd.get.2 h2] at h1; cases h1
  rw [f13_t h hB]
  simp only [Option.bind_some]
  have hlen : (zBT (keys w.2.2.1)).length=w.2.2.1.length:=by rw [zCN,keys,List.length_map]
  rw [zBS]
  have hpo : p∈keys (mset d p true):=zBc.2 (.inl rfl)
  refine (zAq (fun i s=>Ext ss a w (mset d p true) r t s∧∀ j,j < i→Good ss a w ((zBT (keys w.2.2.1)).getD j default) p (keys s.1) (keys s.2.1)) ⟨Ext.refl (hd.set p) hr (fun x hx=>?_) hro,fun j hj=>absurd hj (by omega)⟩ fun i s hi hs=>?_).bind fun o ho=>?_
  ·rcases zBc.1 hx with h2 | h2
   ·subst h2; exact hp
   exact hdo x h2
  ·obtain ⟨s9,s10,s11⟩:=s
   obtain ⟨hE,hG⟩:=hs
   have hps : p∈keys s9:=hE.sd p hpo
   have ht : s11=t:=hE.t
   subst ht
   have hstep : Tot ((((ix (zBT (keys w.2.2.1)) (i:Int)).bind fun x24 =>
     (f75 w (((((mget w.2.2.1 x24).getD (0,([] : Str),[]))).2).1)).bind fun x26 =>
     (rng (f98_b1 p w a (f98 n) s9 s11 x24 x26) (Int.toNat (List.length (((((mget w.2.2.1 x24).getD (0,([] : Str),[]))).2).2) : Int)) 0 s10).bind fun o36=>match o36 with
      | .inl s30=>(some (.inl (s9,s30,s11)))
      | .inr (s33,s34,s35)=>(some (.inl (s33,s34,s35)))) : Option ((BM×BM×BM) ⊕ Unit))) fun o=>∃ s',o=.inl s'∧Ext ss a w s9 s10 s11 s'∧Good ss a w ((zBT (keys w.2.2.1)).getD i default) p (keys s'.1) (keys s'.2.1):=by
    refine zA2 hi ?_
    have hk : (zBT (keys w.2.2.1)).getD i default∈keys w.2.2.1:=zBv.1 (zBV hi)
    generalize (zBT (keys w.2.2.1)).getD i default=k at hk ⊢
    have he:=zCR h.rn hk
    obtain ⟨_,_,_,hrel,hob⟩:=h.rk _ he
    show Tot ((f75 w (zBX w k).2.1).bind fun x26=>(rng (f98_b1 p w a (f98 n) s9 s11 k x26) (Int.toNat ((zBX w k).2.2.length : Int)) 0 s10).bind _) _
    rw [f75_for hS h.srt hrel]
    simp only [Option.bind_some]
    rw [zBS]
    have hsl:=(sortFor_rel hS hrel).2.2
    refine (zA1 (fun j r'=>Ext ss a w s9 s10 s11 (s9,r',s11)∧∀ j',j' < j→(zBX w k).2.2.getD j' default=p→zCw ss a (zBX w k).2 j'≠3→zCw ss a (zBX w k).2 j'≠1∧k∈keys r') (fun q=>Ext ss a w s9 s10 s11 q∧Good ss a w k p (keys q.1) (keys q.2.1)) ⟨Ext.refl hE.td hE.tr hE.od hE.ro,fun j hj=>absurd hj (by omega)⟩ fun j r' hj hr'=>?_).bind fun o ho=>?_
    ·obtain ⟨hE',hJ⟩:=hr'
     unfold f98_b1
     have hx : ix (zBX w k).2.2 (j:Int)=some ((zBX w k).2.2.getD j default):=zBW hj
     have hx' : ix (((((mget w.2.2.1 k).getD (0,([] : Str),[]))).2).2) (j:Int)=some ((zBX w k).2.2.getD j default):=hx
     rw [hx']
     simp only [Option.bind_some]
     have hy : ix (zCd ss (zBX w k).2.1).2 (j:Int)=some ((zCd ss (zBX w k).2.1).2.getD j default):=zBW (by rw [hsl]; exact hj)
     rw [hy]
     simp only [Option.bind_some,fdyn_eq ha]
     refine Tot.bind (Q:=fun o=>(∃ s',o=.inl s'∧Ext ss a w s9 s10 s11 (s9,s',s11)∧∀ j',j' < j+1→(zBX w k).2.2.getD j' default=p→zCw ss a (zBX w k).2 j'≠3→zCw ss a (zBX w k).2 j'≠1∧k∈keys s')∨∃ q,o=.inr q∧Ext ss a w s9 s10 s11 q∧Good ss a w k p (keys q.1) (keys q.2.1)) ?_ fun o ho=>?_
     ·refine zAR (fun e1=>zAB (.inl ⟨_,rfl,hE',fun j' hj' h2 h3=>?_⟩)) (fun e1=>?_)
      ·rcases Nat.lt_or_ge j' j with h4 | h4
       ·exact hJ j' h4 h2 h3
       have : j'=j:=by omega
       subst this; rw [decide_eq_true h2] at e1; cases e1
      have e1' : (zBX w k).2.2.getD j default=p:=by simpa only [Bool.not_eq_false',decide_eq_true_eq] using e1
      refine zAR (fun e3=>zAB (.inl ⟨_,rfl,hE',fun j' hj' h2 h3=>?_⟩)) (fun e3=>?_)
      ·rcases Nat.lt_or_ge j' j with h4 | h4
       ·exact hJ j' h4 h2 h3
       have : j'=j:=by omega
       subst this; exact absurd (of_decide_eq_true e3) h3
      have e3' : zCw ss a (zBX w k).2 j≠3:=of_decide_eq_false e3
      have hE2 : Ext ss a w s9 s10 s11 (s9,mset r' k true,s11):=by
       refine ⟨rfl,hE'.td,hE'.tr.set k,hE'.sd,fun x hx=>zBc.2 (.inr (hE'.sr x hx)),hE'.od,fun x hx=>?_,fun x hx=>.inl hx,fun x hx=>?_⟩
       ·rcases zBc.1 hx with h2 | h2
        ·subst h2; exact hk
        exact hE'.ro x h2
       rcases zBc.1 hx with h2 | h2
       ·subst h2; exact .inr ⟨j,hj,by rw [e1']; exact hps,e3'⟩
       exact hE'.tch x h2
      refine zAR (fun e2=>?_) (fun e2=>zAB (.inl ⟨_,rfl,hE2,fun j' hj' h2 h3=>?_⟩))
      ·rw [zBS]
       refine (zAq (n:=(zBX w k).2.2.length) (fun m q=>Ext ss a w s9 s10 s11 q∧k∈keys q.2.1∧∀ m',m' < m→(zBX w k).2.2.getD m' default∈keys q.1) ⟨hE2,zBc.2 (.inl rfl),fun m hm=>absurd hm (by omega)⟩ fun m q hm' hq=>?_).bind fun o ho=>?_
       ·obtain ⟨q1,q2,q3⟩:=q
        obtain ⟨hQ,hkq,hQm⟩:=hq
        have hq3 : q3=s11:=hQ.t
        subst hq3
        unfold f98_b2
        have hz : ix (((((mget w.2.2.1 k).getD (0,([] : Str),[]))).2).2) (m:Int)=some ((zBX w k).2.2.getD m default):=zBW hm'
        rw [hz]
        simp only [Option.bind_some]
        have hlt : miss w q1 < n:=by
         have h5 : miss w q1 < miss w d:=miss_lt h.on (fun x hx=>hQ.sd x (hE.sd x (zBc.2 (.inr hx)))) hp hpd (hQ.sd p hps)
         omega
        refine (ih _ q1 q2 q3 hQ.td hQ.tr hQ.od hQ.ro (hob _ (zBV hm')) hlt).bind fun o ho=>?_
        refine zAB ⟨_,rfl,hQ.trans ho.1,ho.1.sr k hkq,fun m' hm''=>?_⟩
        rcases Nat.lt_or_ge m' m with h4 | h4
        ·exact ho.1.sd _ (hQm m' h4)
        have : m'=m:=by omega
        subst this; exact ho.2
       obtain ⟨⟨q1,q2,q3⟩,rfl,hQ,hkq,hQm⟩:=ho
       refine zAB (.inr ⟨_,rfl,hQ,fun i hi h5 h6=>⟨hkq,fun _ o ho=>?_⟩⟩)
       obtain ⟨m,hm,rfl⟩:=zB4 default ho
       exact hQm m hm
      rcases Nat.lt_or_ge j' j with h4 | h4
      ·have h5:=hJ j' h4 h2 h3
       exact ⟨h5.1,zBc.2 (.inr h5.2)⟩
      have : j'=j:=by omega
      subst this
      exact ⟨of_decide_eq_false e2,zBc.2 (.inl rfl)⟩
     rcases ho with ⟨s',rfl,h2⟩ | ⟨⟨q1,q2,q3⟩,rfl,h2⟩
     ·exact zAB (.inl ⟨_,rfl,h2⟩)
     exact zAB (.inr ⟨_,rfl,h2⟩)
    rcases ho with ⟨s',rfl,h2,h3⟩ | ⟨⟨q1,q2,q3⟩,rfl,h2⟩
    ·refine zAB ⟨_,rfl,h2,fun i hi h4 h5=>?_⟩
     have h6:=h3 i hi h4 h5
     exact ⟨h6.2,fun h7=>absurd h7 h6.1⟩
    exact zAB ⟨_,rfl,h2⟩
   unfold f98_b0
   refine hstep.bind fun o ho=>?_
   obtain ⟨⟨q1,q2,q3⟩,rfl,h2,h3⟩:=ho
   refine zAB ⟨_,rfl,hE.trans h2,fun j hj=>?_⟩
   rcases Nat.lt_or_ge j i with h4 | h4
   ·exact (hG j h4).mono h2.sd h2.sr
   have : j=i:=by omega
   subst this; exact h3
  obtain ⟨⟨q1,q2,q3⟩,rfl,h2,h3⟩:=ho
  refine zAB ⟨⟨h2.t,h2.td,h2.tr,fun x hx=>h2.sd x (zBc.2 (.inr hx)),h2.sr,h2.od,h2.ro,fun x hx=>?_,h2.tch⟩,h2.sd p hpo⟩
  rcases h2.good x hx with h4 | h4
  ·rcases zBc.1 h4 with h5 | h5
   ·subst h5
    refine .inr fun k hk=>?_
    obtain ⟨j,hj,rfl⟩:=zB4 default (zBv.2 hk)
    exact h3 j hj
   exact .inl h5
  exact .inr h4
theorem tot_mfold {S α R:Type}{g:S→α→Option (S ⊕ R)}(Inv:S→Prop) (P:S→α→Prop) : ∀ {l:List α}(h:∀ s e,e∈l→Inv s→Tot (g s e) fun o=>∃ s',o=.inl s'∧Inv s'∧P s' e∧∀ e',P s e'→P s' e'){s0:S}(h0:Inv s0),Tot (zBu g s0 l) fun o=>∃ s,o=.inl s∧Inv s∧(∀ e∈l,P s e)∧∀ e',P s0 e'→P s e':=by
 intro l
 induction l with
 | nil=>intro h s0 h0; exact ⟨_,rfl,s0,rfl,h0,fun e he=>by simp at he,fun e' h1=>h1⟩
 | cons e l ih =>
  intro h s0 h0
  refine (h s0 e (by simp) h0).bind fun o ho=>?_
  obtain ⟨s',rfl,h1,h2,h3⟩:=ho
  refine (ih (fun s e he hs=>h s e (List.mem_cons_of_mem _ he) hs) h1).mono fun o ho=>?_
  obtain ⟨s,rfl,h4,h5,h6⟩:=ho
  refine ⟨s,rfl,h4,fun e' he'=>?_,fun e' he'=>h6 e' (h3 e' he')⟩
  rcases List.mem_cons.1 he' with h7 | h7
  ·subst h7; exact h6 _ h2
  exact h5 e' h7
structure Acts (ss:List zBU) (a:Nat) (w:PW) (p:Int) (o:BM×BM×BM) : Prop where
 td : TS o.1
 tr : TS o.2.1
 tt : TS o.2.2
 od : ∀ x∈keys o.1,x∈keys w.2.1
 ro : ∀ x∈keys o.2.1,x∈keys w.2.2.1
 ot : ∀ x∈keys o.2.2,x∈keys w.2.1
 pd : p∈keys o.1
 good : ∀ x∈keys o.1,∀ k∈keys w.2.2.1,Good ss a w k x (keys o.1) (keys o.2.1)
 tch : ∀ k∈keys o.2.1,Touch ss a w k (keys o.1)
 tou : ∀ k∈keys o.2.1,∀ x∈(zBX w k).2.2,x∈keys o.1∨x∈keys o.2.2
theorem wayN_of {z:Int}(h1:1≤z) (h3:z≤3) : ∃ a,ix ([94,95,96] : List Nat) (w64 (z - 1))=some a∧WayN a∧(a:Int)=93+z:=by
 have : z=1∨z=2∨z=3:=by omega
 rcases this with h | h | h <;> subst h
 ·exact ⟨94,by decide,.inl rfl,rfl⟩
 ·exact ⟨95,by decide,.inr (.inl rfl),rfl⟩
 exact ⟨96,by decide,.inr (.inr rfl),rfl⟩
theorem f51_t {ss:List zBU}(hS:SS ss){B:Int}{w:PW}(h:IW ss B w) (hB:B≤1000000){p z:Int}(hp:p∈keys w.2.1) (h1:1≤z) (h3:z≤3) : Tot (f51 w p z) fun o=>∃ a,WayN a∧(a:Int)=93+z∧Acts ss a w p o:=by
 obtain ⟨a,hx,ha,haz⟩:=wayN_of h1 h3
 unfold f51
 refine (zBN (show f49=some () from rfl)).bind fun _ _=>?_
 rw [hx]
 simp only [Option.bind_some]
 have hm : miss w [] < 10000:=by
  have h4 : miss w []≤(keys w.2.1).length:=List.length_filter_le _ _
  have:=h.ol
  rw [keys,List.length_map] at h4; omega
 refine (f98_t hS h hB ha 10000 p [] [] [] TS.nil TS.nil (fun x hx=>by simp [keys] at hx) (fun x hx=>by simp [keys] at hx) hp hm).bind fun x8 hx8=>?_
 obtain ⟨d,r,t⟩:=x8
 obtain ⟨hE,hpd⟩:=hx8
 have ht : t=[]:=hE.t
 subst ht
 refine (tot_mfold (fun t:BM=>TS t∧∀ x∈keys t,x∈keys w.2.1) (fun t e=>∀ x∈(zBX w e.1).2.2,x∈keys d∨x∈keys t) (fun s e he hs=>?_) ⟨TS.nil,fun x hx=>by simp [keys] at hx⟩).bind fun o ho=>?_
 ·have hek : e.1∈keys r:=List.mem_map.2 ⟨e,he,rfl⟩
  have hrel:=zCR h.rn (hE.ro _ hek)
  have hob:=(h.rk _ hrel).2.2.2.2
  unfold f51_m0
  rw [zBS]
  refine (zAq (n:=(zBX w e.1).2.2.length) (fun i s'=>(TS s'∧∀ x∈keys s',x∈keys w.2.1)∧(∀ x∈keys s,x∈keys s')∧∀ j,j < i→(zBX w e.1).2.2.getD j default∈keys d∨(zBX w e.1).2.2.getD j default∈keys s') ⟨hs,fun x hx=>hx,fun j hj=>absurd hj (by omega)⟩ fun i s' hi hs'=>?_).bind fun o ho=>?_
  ·unfold f51_b1
   have hz : ix (((((mget w.2.2.1 e.1).getD (0,([] : Str),[]))).2).2) (i:Int)=some ((zBX w e.1).2.2.getD i default):=zBW hi
   rw [hz]
   simp only [Option.bind_some]
   obtain ⟨⟨h4,h5⟩,h6,h7⟩:=hs'
   refine Tot.bind (Q:=fun o=>∃ s'',o=.inl s''∧((TS s''∧∀ x∈keys s'',x∈keys w.2.1)∧(∀ x∈keys s,x∈keys s'')∧∀ j,j < i+1→(zBX w e.1).2.2.getD j default∈keys d∨(zBX w e.1).2.2.getD j default∈keys s'')) ?_ fun o ho=>?_
   ·refine zAR (fun h8=>zAB ⟨_,rfl,⟨h4.set _,fun x hx=>?_⟩,fun x hx=>zBc.2 (.inr (h6 x hx)),fun j hj=>?_⟩) (fun h8=>zAB ⟨_,rfl,⟨h4,h5⟩,h6,fun j hj=>?_⟩)
    ·rcases zBc.1 hx with h9 | h9
     ·subst h9; exact hob _ (zBV hi)
     exact h5 x h9
    ·rcases Nat.lt_or_ge j i with h9 | h9
     ·rcases h7 j h9 with h10 | h10
      ·exact .inl h10
      exact .inr (zBc.2 (.inr h10))
     have : j=i:=by omega
     subst this; exact .inr (zBc.2 (.inl rfl))
    rcases Nat.lt_or_ge j i with h9 | h9
    ·exact h7 j h9
    have : j=i:=by omega
    subst this
    refine .inl (hE.td.get.1 ?_)
    simpa only [Bool.not_eq_false'] using h8
   obtain ⟨s'',rfl,h8⟩:=ho
   exact zAB ⟨_,rfl,h8⟩
  obtain ⟨s',rfl,h4,h5,h6⟩:=ho
  refine zAB ⟨_,rfl,h4,fun x hx=>?_,fun e' he' x hx=>?_⟩
  ·obtain ⟨j,hj,rfl⟩:=zB4 default hx
   exact h6 j hj
  rcases he' x hx with h7 | h7
  ·exact .inl h7
  exact .inr (h5 x h7)
 obtain ⟨t,rfl,h4,h5,_⟩:=ho
 refine zAB ⟨a,ha,haz,⟨hE.td,hE.tr,h4.1,hE.od,hE.ro,h4.2,hpd,fun x hx=>?_,fun k hk=>?_,fun k hk=>?_⟩⟩
 ·rcases hE.good x hx with h6 | h6
  ·simp [keys] at h6
  exact h6
 ·rcases hE.tch k hk with h6 | h6
  ·simp [keys] at h6
  exact h6
 obtain ⟨e,he,rfl⟩:=List.mem_map.1 hk
 exact h5 e he
theorem f52_eq {d:BM}{B:Int}(hd:TS d) (hk:∀ x∈keys d,1≤x∧x < B) (hB:B≤1000000) : f52 d=some (zBT (keys d)):=by
 unfold f52
 simp only [zBs,Option.bind_some]
 rw [skeys_t hd.1 hk (by omega)]; rfl
theorem f12_t {ss:List zBU}(hS:SS ss){B:Int}{w:PW}(h:IW ss B w) (hB:B≤1000000) (p z:Int) : Tot (f12 w p z) fun r=>r.2.2.2=0→∃ a o,1≤z∧z≤3∧WayN a∧(a:Int)=93+z∧Acts ss a w p o∧r=(zBT (keys o.1),zBT (keys o.2.1),zBT (keys o.2.2),0):=by
 unfold f12
 refine zAi (by simp [f49]) (zAR (fun _=>zAB fun h0=>absurd h0 (by decide)) (fun hz=>?_))
 simp only [Bool.or_eq_false_iff,decide_eq_false_iff_not] at hz
 refine (f50_t w [p]).bind fun x3 hx=>?_
 refine zAR (fun h0=>zAB fun h1=>?_) (fun h0=>?_)
 ·simp only [Bool.not_eq_true',decide_eq_false_iff_not] at h0; exact absurd h1 h0
 have h0' : x3=0:=by simpa using h0
 have hp : p∈keys w.2.1:=by
  rcases hx with ⟨h2,_⟩ | ⟨h2,_⟩ | ⟨_,_,h2⟩
  ·omega
  ·omega
  exact h2 p (by simp)
 refine (f51_t hS h hB hp (by omega) (by omega)).bind fun o ho=>?_
 obtain ⟨a,ha,haz,hA⟩:=ho
 have hn:=h.no; have hr:=h.nr
 rw [f52_eq hA.td (fun x hx=>h.ok x (hA.od x hx)) (by omega),f52_eq hA.tr (fun x hx=>h.rkey x (hA.ro x hx)) (by omega),f52_eq hA.tt (fun x hx=>h.ok x (hA.ot x hx)) (by omega)]
 exact zAB fun _=>⟨a,o,by omega,by omega,ha,haz,hA,rfl⟩
theorem f12_err {ss:List zBU}(hS:SS ss){B:Int}{w:PW}(h:IW ss B w) (hB:B≤1000000) (p:Int){z:Int}(h1:1≤z) (h3:z≤3) : Tot (f12 w p z) fun r=>∃ x2,f50 w [p]=some x2∧r.2.2.2=x2∧(x2≠0→r.1=[])∧(x2=0→∃ a o,f51 w p z=some o∧p∈keys w.2.1∧WayN a∧(a:Int)=93+z∧Acts ss a w p o∧r=(zBT (keys o.1),zBT (keys o.2.1),zBT (keys o.2.2),0)):=by
 unfold f12
 refine zAi (by simp [f49]) (zAR (fun h0=>?_) (fun hz=>?_))
 ·simp only [Bool.or_eq_true,decide_eq_true_eq] at h0; omega
 obtain ⟨x3,hx3,hx⟩:=f50_t w [p]
 rw [hx3]
 simp only [Option.bind_some]
 refine zAR (fun h0=>zAB ⟨x3,rfl,rfl,fun _=>rfl,fun h4=>?_⟩) (fun h0=>?_)
 ·subst h4; simp at h0
 have h0' : x3=0:=by simpa using h0
 have hp : p∈keys w.2.1:=by
  rcases hx with ⟨h2,_⟩ | ⟨h2,_⟩ | ⟨_,_,h2⟩
  ·omega
  ·omega
  exact h2 p (by simp)
 obtain ⟨o,ho,a,ha,haz,hA⟩:=f51_t hS h hB hp (z:=z) (by omega) (by omega)
 rw [ho]
 simp only [Option.bind_some]
 have hn:=h.no; have hr:=h.nr
 rw [f52_eq hA.td (fun x hx=>h.ok x (hA.od x hx)) (by omega),f52_eq hA.tr (fun x hx=>h.rkey x (hA.ro x hx)) (by omega),f52_eq hA.tt (fun x hx=>h.ok x (hA.ot x hx)) (by omega)]
 exact zAB ⟨x3,rfl,h0'.symm,fun h4=>absurd h0' h4,fun _=>⟨a,o,rfl,hp,ha,haz,hA,rfl⟩⟩
theorem f58_t (w:PW) (p v:Int) : Tot (f58 w p v) fun r=>r=0→p∈keys w.2.1:=by
 unfold f58
 rw [f72_eq]
 simp only [Option.bind_some]
 refine zAR (fun _=>zAB fun h=>absurd h (by decide)) (fun _=>?_)
 refine (f50_t w [p]).bind fun r hr=>zAB fun h0=>?_
 rcases hr with ⟨h2,_⟩ | ⟨h2,_⟩ | ⟨_,_,h2⟩
 ·omega
 ·omega
 exact h2 p (by simp)
theorem IW.setO {ss:List zBU}{B:Int}{w:PW}(h:IW ss B w){k:Int}(hk:k∈keys w.2.1){v:Int×Int×Str}(hv:v.1=k∧v.2.2.length≤1000) : IW ss B (w.1,mset w.2.1 k v,w.2.2.1,w.2.2.2.1,w.2.2.2.2)∧keys (mset w.2.1 k v)=keys w.2.1:=by
 have he : keys (mset w.2.1 k v)=keys w.2.1:=(mset_keys _ _ _).trans (if_pos hk)
 refine ⟨⟨h.srt,?_,?_,?_,h.rn,?_,h.no,h.nr,fun e he=>?_⟩,he⟩
 ·show (keys (mset w.2.1 k v)).Nodup; rw [he]; exact h.on
 ·show ∀ q∈keys (mset w.2.1 k v),_; rw [he]; exact h.ok
 ·show (mset w.2.1 k v).length≤500; rw [mset_length_in hk]; exact h.ol
 ·show ∀ e∈w.2.2.1,_∧_∧_∧_∧∀ o∈e.2.2.2,o∈keys (mset w.2.1 k v); rw [he]; exact h.rk
 rcases mset_mem he with h1 | h1
 ·subst h1; exact hv
 exact h.ot e h1
def objAt (w:PW) (k:Int) : Int×Int×Str:=(mget w.2.1 k).getD (0,0,([] : Str))
theorem objAt_of {w:PW}{k:Int}(hk:k∈keys w.2.1) : (k,objAt w k)∈w.2.1:=by
 have h:=zBk.1 hk
 obtain ⟨v,hv⟩:=Option.isSome_iff_exists.1 h
 rw [objAt,hv]; exact mget_mem hv
theorem f43_t {ss:List zBU}(hS:SS ss){B:Int}{w:PW}(h:IW ss B w) (hB:B≤1000000) (p v:Int) : Tot (f43 w p v) fun r=>IW ss B r.2.2∧r.2.2.2.2.1=w.2.2.1∧keys r.2.2.2.1=keys w.2.1:=by
 unfold f43
 refine (f58_t w p v).bind fun x2 hx=>?_
 refine zAR (fun _=>zAB ⟨h,rfl,rfl⟩) (fun h0=>?_)
 have hp:=hx (by simpa using h0)
 refine (f51_t hS h hB hp (z:=2) (by omega) (by omega)).bind fun o ho=>?_
 obtain ⟨a,ha,haz,hA⟩:=ho
 have hn:=h.no
 rw [f52_eq hA.td (fun x hx=>h.ok x (hA.od x hx)) (by omega)]
 simp only [Option.bind_some]
 rw [zBS]
 refine (zAq (fun i (s:PW)=>IW ss B s∧s.2.2.1=w.2.2.1∧keys s.2.1=keys w.2.1) ⟨h,rfl,rfl⟩ fun i s hi hs=>?_).bind fun o ho=>?_
 ·unfold f43_b0
  refine zA2 hi ?_
  have hk : (zBT (keys o.1)).getD i default∈keys s.2.1:=by rw [hs.2.2]; exact hA.od _ (zBv.1 (zBV hi))
  have h4:=fun (v:Int×Int×Str) hv=>hs.1.setO hk (v:=v) hv
  have h5:=hs.1.ot _ (objAt_of hk)
  have h6:=h4 ((objAt s ((zBT (keys o.1)).getD i default)).1,v,(objAt s ((zBT (keys o.1)).getD i default)).2.2) h5
  exact zAB ⟨_,rfl,h6.1,hs.2.1,by rw [← hs.2.2]; exact h6.2⟩
 obtain ⟨s,rfl,h4⟩:=ho
 exact zAB h4
theorem del_t {β:Type}{x:List (Int×β)}(hn:(keys x).Nodup) (f:Int→Bool){q:Int→β→Option Bool}(hq:∀ e∈x,q e.1 e.2=some (f e.1)){g:List (Int×β)→Int×β→Option (List (Int×β) ⊕ Unit)}(hg:∀ s p,g s p=(q p.1 p.2).bind fun b=>bif b then some (.inl (mdel s p.1)) else some (.inl s)) : Tot (zBu g x x) fun o=>∃ y,o=.inl y∧(keys y).Nodup∧(∀ e∈y,e∈x∧f e.1=false)∧∀ e∈x,f e.1=false→e∈y:=by
 refine (tot_mfold (fun s:List (Int×β)=>(keys s).Nodup∧(∀ e∈s,e∈x)∧∀ e∈x,f e.1=false→e∈s) (fun s e=>f e.1=true→e.1∉keys s) (fun s e he hs=>?_) ⟨hn,fun e he=>he,fun e he _=>he⟩).mono fun o ho=>?_
 ·rw [hg,hq e he]
  simp only [Option.bind_some]
  refine zAR (fun h1=>zAB ⟨_,rfl,⟨zCC _ hs.1,fun e' he'=>hs.2.1 e' ((zCo hs.1).1 he').1,fun e' he' hf=>(zCo hs.1).2 ⟨hs.2.2 e' he' hf,fun h2=>?_⟩⟩,fun _ h2=>?_,fun e' h2 h3 h4=>?_⟩) (fun h1=>zAB ⟨_,rfl,hs,fun h2=>?_,fun e' h2=>h2⟩)
  ·rw [h2,h1] at hf; cases hf
  ·obtain ⟨e',he',h3⟩:=List.mem_map.1 h2
   exact ((zCo hs.1).1 he').2 h3
  ·obtain ⟨e'',he'',h5⟩:=List.mem_map.1 h4
   exact h2 h3 (List.mem_map.2 ⟨e'',((zCo hs.1).1 he'').1,h5⟩)
  rw [h1] at h2; cases h2
 obtain ⟨s,rfl,h1,h2,_⟩:=ho
 refine ⟨s,rfl,h1.1,fun e he=>⟨h1.2.1 e he,?_⟩,h1.2.2⟩
 rw [Bool.eq_false_iff]
 exact fun h3=>h2 e (h1.2.1 e he) h3 (List.mem_map.2 ⟨e,he,rfl⟩)
theorem f20_t {ss:List zBU}(hS:SS ss){B:Int}{w:PW}(h:IW ss B w) (hB:B≤1000000) (p:Int) : Tot (f20 w p) fun r=>IW ss B r.2.2.2∧r.2.2.2.2.2.1.length≤w.2.2.1.length∧(∀ e∈r.2.2.2.2.2.1,e∈w.2.2.1)∧∃ x2,f50 w [p]=some x2∧r.2.2.1=x2∧(x2≠0→r.1=[]∧r.2.2.2=w)∧(x2=0→∃ x5,f51 w p 3=some x5∧r.1=zBT (keys x5.1)∧∀ k∈keys r.2.2.2.2.1,k∉keys x5.1):=by
 unfold f20
 obtain ⟨x2,hx2,hx⟩:=f57_t w [p]
 have hx2' : f50 w [p]=some x2:=by
  unfold f57 at hx2
  cases hc : f50 w [p] with
  | none=>rw [hc] at hx2; cases hx2
  | some v=>rw [hc] at hx2; exact hx2
 rw [hx2]
 simp only [Option.bind_some]
 refine zAR (fun h0=>zAB ⟨h,Nat.le_refl _,fun e he=>he,x2,hx2',rfl,fun _=>⟨rfl,rfl⟩,fun h1=>by subst h1; simp at h0⟩) (fun h0=>?_)
 have h0' : x2=0:=by simpa using h0
 have hp : p∈keys w.2.1:=by
  rcases hx with ⟨h2,_⟩ | ⟨h2,_⟩ | ⟨_,_,h2⟩
  ·omega
  ·omega
  exact h2 p (by simp)
 obtain ⟨x5,hx5,a,ha,haz,hA⟩:=f51_t hS h hB hp (z:=3) (by omega) (by omega)
 rw [hx5]
 simp only [Option.bind_some]
 have hn:=h.no
 have hr:=h.nr
 refine (tot_mfold (fun s:BM=>TS s∧∀ k∈keys s,k∈keys w.2.2.1) (fun s e=>(∃ o∈e.2.2.2,o∈keys x5.1)→e.1∈keys s) (fun s e he hs=>?_) ⟨hA.tr,hA.ro⟩).bind fun o ho=>?_
 ·unfold f20_m0
  rw [f66_eq (q:=fun y1=>f67 y1 (x5.1,s,x5.2.2)) (fun y=>(mget x5.1 y).getD false) (fun y _=>rfl)]
  simp only [Option.bind_some]
  refine zAR (fun h1=>zAB ⟨_,rfl,⟨hs.1.set _,fun k hk=>?_⟩,fun _=>zBc.2 (.inl rfl),fun e' h2 h3=>zBc.2 (.inr (h2 h3))⟩) (fun h1=>zAB ⟨_,rfl,hs,fun h2=>?_,fun e' h2=>h2⟩)
  ·rcases zBc.1 hk with h2 | h2
   ·subst h2; exact List.mem_map.2 ⟨e,he,rfl⟩
   exact hs.2 k h2
  obtain ⟨y,hy,h3⟩:=h2
  exact absurd (hA.td.get.2 h3) (List.any_eq_false.1 h1 y hy)
 obtain ⟨s,rfl,h1,h2,_⟩:=ho
 have e1 : Tot (f68 w.2.2.1 (fun y1 y2=>f69 y1 y2 (x5.1,s,x5.2.2))) fun y=>(keys y).Nodup∧(∀ e∈y,e∈w.2.2.1∧(mget s e.1).getD false=false)∧∀ e∈w.2.2.1,(mget s e.1).getD false=false→e∈y:=by
  unfold f68
  refine (del_t h.rn (fun k=>(mget s k).getD false) (q:=fun y1 y2=>f69 y1 y2 (x5.1,s,x5.2.2)) (g:=f68_m0 fun y1 y2=>f69 y1 y2 (x5.1,s,x5.2.2)) (fun e _=>rfl) (fun s p=>rfl)).bind fun o ho=>?_
  obtain ⟨y,rfl,h3⟩:=ho
  exact zAB h3
 have e2 : Tot (f70 w.2.1 (fun y1 y2=>f71 y1 y2 (x5.1,s,x5.2.2))) fun y=>(keys y).Nodup∧(∀ e∈y,e∈w.2.1∧(mget x5.1 e.1).getD false=false)∧∀ e∈w.2.1,(mget x5.1 e.1).getD false=false→e∈y:=by
  unfold f70
  refine (del_t h.on (fun k=>(mget x5.1 k).getD false) (q:=fun y1 y2=>f71 y1 y2 (x5.1,s,x5.2.2)) (g:=f70_m0 fun y1 y2=>f71 y1 y2 (x5.1,s,x5.2.2)) (fun e _=>rfl) (fun s p=>rfl)).bind fun o ho=>?_
  obtain ⟨y,rfl,h3⟩:=ho
  exact zAB h3
 refine e1.bind fun x15 h15=>?_
 refine e2.bind fun x17 h17=>?_
 rw [f52_eq hA.td (fun x hx=>h.ok x (hA.od x hx)) (by omega),f52_eq h1.1 (fun x hx=>h.rkey x (h1.2 x hx)) (by omega)]
 have hl15 : x15.length≤w.2.2.1.length:=by
  have h3:=zBj (m:=keys w.2.2.1) h15.1 fun x hx=>by
   obtain ⟨e,he,rfl⟩:=List.mem_map.1 hx
   exact List.mem_map.2 ⟨e,(h15.2.1 e he).1,rfl⟩
  simpa only [keys,List.length_map] using h3
 have hl17 : x17.length≤w.2.1.length:=by
  have h3:=zBj (m:=keys w.2.1) h17.1 fun x hx=>by
   obtain ⟨e,he,rfl⟩:=List.mem_map.1 hx
   exact List.mem_map.2 ⟨e,(h17.2.1 e he).1,rfl⟩
  simpa only [keys,List.length_map] using h3
 refine zAB ⟨⟨h.srt,h17.1,fun k hk=>?_,Nat.le_trans hl17 h.ol,h15.1,fun e he=>?_,h.no,h.nr,fun e he=>h.ot e (h17.2.1 e he).1⟩,hl15,fun e he=>(h15.2.1 e he).1,x2,hx2',h0'.symm,fun h3=>absurd h0' h3,fun _=>⟨x5,rfl,rfl,fun k hk=>?_⟩⟩
 rotate_left 2
 ·obtain ⟨e,he,rfl⟩:=List.mem_map.1 hk
  intro h3
  have h4:=(h17.2.1 e he).2
  rw [hA.td.get.2 h3] at h4; cases h4
 ·obtain ⟨e,he,rfl⟩:=List.mem_map.1 hk
  exact h.ok _ (List.mem_map.2 ⟨e,(h17.2.1 e he).1,rfl⟩)
 obtain ⟨h3,h4⟩:=h15.2.1 e he
 obtain ⟨h5,h6,h7,h8,h9⟩:=h.rk e h3
 refine ⟨h5,h6,h7,h8,fun o ho=>?_⟩
 obtain ⟨e',he',h10⟩:=List.mem_map.1 (h9 o ho)
 refine List.mem_map.2 ⟨e',h17.2.2 e' he' ?_,h10⟩
 rw [Bool.eq_false_iff]
 intro h11
 have h12:=hA.td.get.1 h11
 rw [h10] at h12
 have h13:=h2 e h3 ⟨o,ho,h12⟩
 rw [h1.1.get.2 h13] at h4; cases h4
theorem f61_two (a b:Int) : f61 [a,b]=some (if a≠0 then a else if b≠0 then b else 0):=by
 by_cases h1 : a=0
 ·by_cases h2 : b=0
  ·subst h1; subst h2; rfl
  subst h1
  simp [f61,f61_b0,rng,ix,h2]
 simp [f61,f61_b0,rng,ix,h1]
theorem f59_eq (w:PW) : f59 w=some w:=by obtain ⟨a,b,c,d,e⟩:=w; rfl
theorem mset_fresh {α β:Type} [DecidableEq α] : ∀ {x:List (α×β)}{k:α}{v:β},k∉x.map (·.1)→mset x k v=x++[(k,v)]:=by
 intro x
 induction x with
 | nil=>intro k v _; rfl
 | cons p x ih =>
  intro k v h
  obtain ⟨a,b⟩:=p
  simp only [List.map_cons,List.mem_cons,not_or] at h
  simp only [mset,if_neg h.1,ih h.2,List.cons_append]
theorem mget_append_fresh {α β:Type} [DecidableEq α] : ∀ {x:List (α×β)}{k:α}{v:β},k∉x.map (·.1)→mget (x++[(k,v)]) k=some v:=by
 intro x
 induction x with
 | nil=>intro k v _; simp [mget]
 | cons p x ih =>
  intro k v h
  obtain ⟨a,b⟩:=p
  simp only [List.map_cons,List.mem_cons,not_or] at h
  simp only [List.cons_append,mget,if_neg h.1,ih h.2]
theorem nodup_take {α:Type} [Inhabited α] {l:List α}(h:l.Nodup){i:Nat}(hi:i < l.length) : l.getD i default∉l.take i:=by
 have h9:=h
 rw [← List.take_append_drop (i+1) l,zCx default hi,List.nodup_append] at h9
 have h10:=h9.1
 rw [List.nodup_append] at h10
 exact fun hm=>h10.2.2 _ hm _ (by simp) rfl
def toOf (l:List (Int×Int)) (x:Int) : Int:=(mget l x).getD x
structure Copied (ss:List zBU) (w:PW) (p v:Int) (r1 r2:List (Int×Int)) (w':PW) (o:BM×BM×BM) : Prop where
 f : f51 w p 1=some o
 a : Acts ss 94 w p o
 po : p∈keys w.2.1
 k1 : r1.map (·.1)=zBT (keys o.1)
 k2 : r2.map (·.1)=zBT (keys o.2.1)
 o1 : ∀ k∈keys w.2.1,mget w'.2.1 k=mget w.2.1 k
 o2 : ∀ q∈r1,mget w'.2.1 q.2=some (q.2,v,(objAt w q.1).2.2)∧q.2∉keys w.2.1
 t1 : ∀ k∈keys w.2.2.1,mget w'.2.2.1 k=mget w.2.2.1 k
 t2 : ∀ q∈r2,mget w'.2.2.1 q.2=some (q.2,(zBX w q.1).2.1,(zBX w q.1).2.2.map (toOf r1))
theorem f23_some {ss:List zBU}{B:Int}{w:PW}(h:IW ss B w) (hl:¬ (w.2.1.length : Int)=500){v:Int}(hv:f72 v=some true){t:Str}(ht:t.length≤1000) : f23 w v t=some (w.2.2.2.1,0,(w.1,mset w.2.1 w.2.2.2.1 (w.2.2.2.1,v,t),w.2.2.1,w64 (w.2.2.2.1+1),w.2.2.2.2)):=by
 unfold f23
 rw [hv,decide_eq_false hl,decide_eq_false (show ¬ (1000:Int) < (t.length : Int) by omega)]
 rfl
theorem f18_x {ss:List zBU}(hS:SS ss){B:Int}{w:PW}(h:IW ss B w) (hB:B≤900000) (hc:w.2.2.1.length≤1000) (p v:Int) : Tot (f18 w p v) fun r=>IW ss (B+1500) r.2.2.2∧r.2.2.2.2.2.1.length≤1000∧(MX ss w.2.2.1→MX ss r.2.2.2.2.2.1)∧((r.2.2.1≠0∧(r.2.2.1=9∨r.2.2.1=7∨r.2.2.1=4∨f50 w [p]=some r.2.2.1))∨(r.2.2.1=0∧f50 w [p]=some 0∧∃ o,Copied ss w p v r.1 r.2.1 r.2.2.2 o)):=by
 have hm:=h.mono (C:=B+1500) (by omega)
 unfold f18
 have h58 : Tot (f58 w p v) fun x=>(x=7∨(f72 v=some true∧f50 w [p]=some x)):=by
  unfold f58
  rw [f72_eq]
  simp only [Option.bind_some]
  refine zAR (fun _=>zAB (.inl rfl)) (fun h1=>?_)
  obtain ⟨x,hx,_⟩:=f50_t w [p]
  rw [hx]
  exact zAB (.inr ⟨by rw [show (decide (0≤v)&&decide (v≤1000))=true by simpa using h1],rfl⟩)
 refine h58.bind fun x2 hx=>?_
 refine zAR (fun h0=>zAB ⟨hm,hc,fun h=>h,.inl ⟨by simpa using h0,?_⟩⟩) (fun h0=>?_)
 ·rcases hx with rfl | ⟨_,hx⟩
  ·exact .inr (.inl rfl)
  exact .inr (.inr (.inr hx))
 have h0' : x2=0:=by simpa using h0
 subst h0'
 obtain ⟨hv,hf⟩ : f72 v=some true∧f50 w [p]=some 0:=by
  rcases hx with h1 | h1
  ·cases h1
  exact h1
 have hp : p∈keys w.2.1:=by
  obtain ⟨x,hx,h1⟩:=f50_t w [p]
  rw [hf] at hx
  cases hx
  rcases h1 with ⟨h2,_⟩ | ⟨h2,_⟩ | ⟨_,_,h2⟩
  ·cases h2
  ·cases h2
  exact h2 p (by simp)
 obtain ⟨o,ho,a,ha,haz,hA⟩:=f51_t hS h (by omega) hp (z:=1) (by omega) (by omega)
 obtain rfl : a=94:=by omega
 rw [ho]
 simp only [Option.bind_some]
 have hn:=h.no
 have hnr:=h.nr
 rw [f59_eq,f52_eq hA.td (fun x hx=>h.ok x (hA.od x hx)) (by omega)]
 simp only [Option.bind_some]
 have hD : (zBT (keys o.1)).length≤500:=by
  rw [zCN]
  have h3:=zBj (m:=keys w.2.1) hA.td.1 hA.od
  have:=h.ol
  rw [keys,keys,List.length_map,List.length_map] at h3
  rw [keys,List.length_map]; omega
 have hDn : (zBT (keys o.1)).Nodup:=(zBw _).nodup_iff.2 hA.td.1
 rw [zBS]
 refine (zA1 (fun i (s:PW×(List (Int×Int))×(List (Int×Int)))=>IW ss (B+i) s.1∧s.1.2.2.1=w.2.2.1∧s.2.1=s.2.2∧s.2.2.map (·.1)=(zBT (keys o.1)).take i∧(∀ k∈keys w.2.1,mget s.1.2.1 k=mget w.2.1 k)∧∀ q∈s.2.2,mget s.1.2.1 q.2=some (q.2,v,(objAt w q.1).2.2)∧q.2∉keys w.2.1∧q.2≠0) (fun _=>True) ⟨by simpa using h,rfl,rfl,by simp,fun k hk=>rfl,fun q hq=>by simp at hq⟩ fun i s hi hs=>?_).bind fun q hq=>?_
 ·obtain ⟨s13,s14,s15⟩:=s
  obtain ⟨h1,h2,h3,h4,h5,h6⟩:=hs
  simp only at h1 h2 h3 h4 h5 h6
  subst h3
  have hl15 : s14.length=i:=by
   have:=congrArg List.length h4
   rw [List.length_map,List.length_take] at this; omega
  unfold f18_b0
  refine zA2 hi ?_
  refine zAR (fun _=>zAB (.inr ⟨_,rfl,trivial⟩)) (fun hl=>?_)
  have hko : (zBT (keys o.1)).getD i default∈keys w.2.1:=hA.od _ (zBv.1 (zBV hi))
  have hfr : (zBT (keys o.1)).getD i default∉s14.map (·.1):=by
   rw [h4]
   exact nodup_take hDn hi
  have htk : (zBT (keys o.1)).take (i+1)=(zBT (keys o.1)).take i++[(zBT (keys o.1)).getD i default]:=zCx default hi
  generalize (zBT (keys o.1)).getD i default=k at hko hfr htk ⊢
  have hob : (((mget s13.2.1 k).getD (0,0,([] : Str))).2).2=(objAt w k).2.2:=by rw [h5 k hko]; rfl
  rw [hob]
  have htx:=(h.ot _ (objAt_of hko)).2
  simp only at htx
  rw [f23_some h1 (of_decide_eq_false hl) hv htx]
  simp only [Option.bind_some]
  rw [mset_fresh hfr,mget_append_fresh hfr]
  have hno : s13.2.2.2.1∉keys s13.2.1:=fun hk=>by have:=h1.ok _ hk; omega
  have hadd:=h1.addO (by omega) (v:=(s13.2.2.2.1,v,(objAt w k).2.2)) (by have:=of_decide_eq_false hl; omega) ⟨rfl,htx⟩
  have hsub : ∀ k∈keys w.2.1,k∈keys s13.2.1:=fun k hk=>zBk.2 (by rw [h5 k hk]; exact zBk.1 hk)
  have hnw : s13.2.2.2.1∉keys w.2.1:=fun hk=>hno (hsub _ hk)
  refine zAi (zBf (by rw [List.length_singleton]; omega)) (zAB (.inl ⟨_,rfl,?_,h2,rfl,?_,fun k' hk'=>?_,fun q hq=>?_⟩))
  ·have : B+((i+1 : Nat) : Int)=B+(i:Int)+1:=by omega
   rw [this]; exact hadd
  ·simp only [List.map_append,h4,htk]; rfl
  ·show mget (mset s13.2.1 s13.2.2.2.1 _) k'=_
   rw [zC1,if_neg (show ¬ k'=s13.2.2.2.1 from fun he=>hnw (he ▸ hk'))]; exact h5 k' hk'
  rcases List.mem_append.1 hq with h7 | h7
  ·obtain ⟨h8,h9,h10⟩:=h6 q h7
   refine ⟨?_,h9,h10⟩
   show mget (mset s13.2.1 s13.2.2.2.1 _) q.2=_
   rw [zC1,if_neg (show ¬ q.2=s13.2.2.2.1 from fun he=>hno (he ▸ zBk.2 (by rw [h8]; rfl)))]; exact h8
  rw [List.mem_singleton] at h7; subst h7
  refine ⟨?_,hnw,by have:=h1.no; show s13.2.2.2.1≠0; omega⟩
  show mget (mset s13.2.1 s13.2.2.2.1 _) s13.2.2.2.1=_
  rw [zC1,if_pos rfl]; rfl
 rcases hq with ⟨⟨s13,s14,s15⟩,rfl,h1,h2,h3,h4,h5,h6⟩ | ⟨_,rfl,_⟩
 ·simp only at h1 h2 h3 h4 h5 h6
  subst h3
  rw [List.take_length] at h4
  have hI : IW ss (B+500) s13:=h1.mono (by omega)
  simp only
  rw [f52_eq hA.tr (fun x hx=>h.rkey x (hA.ro x hx)) (by omega)]
  simp only [Option.bind_some]
  have hR : (zBT (keys o.2.1)).length≤1000:=by
   rw [zCN]
   have h3:=zBj (m:=keys w.2.2.1) hA.tr.1 hA.ro
   rw [keys,keys,List.length_map,List.length_map] at h3
   rw [keys,List.length_map]; omega
  have hobs : ∀ k∈keys w.2.1,k∈keys s13.2.1:=fun k hk=>zBk.2 (by rw [h5 k hk]; exact zBk.1 hk)
  have hto : ∀ x∈keys w.2.1,toOf s14 x∈keys s13.2.1:=fun x hx=>by
   unfold toOf
   cases hg : mget s14 x with
   | none=>exact hobs x hx
   | some z=>exact zBk.2 (by rw [Option.getD_some,(h6 _ (mget_mem hg)).1]; rfl)
  rw [zBS]
  refine (zAq (fun i (s:PW×(List (Int×Int)))=>IW ss (B+500+i) s.1∧s.1.2.1=s13.2.1∧s.2.map (·.1)=(zBT (keys o.2.1)).take i∧(∀ k∈keys w.2.2.1,mget s.1.2.2.1 k=mget w.2.2.1 k)∧(∀ q∈s.2,mget s.1.2.2.1 q.2=some (q.2,(zBX w q.1).2.1,(zBX w q.1).2.2.map (toOf s14)))∧∀ e∈s.1.2.2.1,e∈w.2.2.1∨∃ q∈s.2,q.2=e.1) ⟨by simpa using hI,rfl,by simp,fun k hk=>by rw [h2],fun q hq=>by simp at hq,fun e he=>.inl (by rw [← h2]; exact he)⟩ fun i s hi hs=>?_).bind fun q hq=>?_
  ·obtain ⟨s26,s27⟩:=s
   obtain ⟨g1,g2,g3,g4,g5,g6⟩:=hs
   simp only at g1 g2 g3 g4 g5 g6
   have hl27 : s27.length=i:=by
    have:=congrArg List.length g3
    rw [List.length_map,List.length_take] at this; omega
   unfold f18_b1
   refine zA2 hi ?_
   have hkw : (zBT (keys o.2.1)).getD i default∈keys w.2.2.1:=hA.ro _ (zBv.1 (zBV hi))
   have htk : (zBT (keys o.2.1)).take (i+1)=(zBT (keys o.2.1)).take i++[(zBT (keys o.2.1)).getD i default]:=zCx default hi
   generalize (zBT (keys o.2.1)).getD i default=k at hkw htk ⊢
   obtain ⟨r1,r2,r3,r4,r5⟩:=h.rk _ (zCR h.rn hkw)
   simp only at r1 r2 r3 r4 r5
   have hs3:=zCL hS r4
   have hrel : (mget s26.2.2.1 k).getD (0,([] : Str),[])=zBX w k:=by rw [g4 k hkw]; rfl
   rw [hrel,f60_eq _ (by have:=hs3.2; omega)]
   simp only [Option.bind_some]
   rw [zBS]
   refine (zAq (fun j (x:List Int)=>x.length=(zBX w k).2.2.length∧∀ m,m < (zBX w k).2.2.length→x.getD m default=if m < j then toOf s14 ((zBX w k).2.2.getD m default) else (zBX w k).2.2.getD m default) ⟨rfl,fun m hm=>by simp⟩ fun j x hj hx=>?_).bind fun q hq=>?_
   ·unfold f18_b3
    refine zA2 (by rw [hx.1]; exact hj) ?_
    rw [hx.2 j hj,if_neg (Nat.lt_irrefl j),f61_two]
    simp only [Option.bind_some]
    refine zAB ⟨_,rfl,by rw [List.length_set]; exact hx.1,fun m hm=>?_⟩
    rw [Int.toNat_natCast,getD_set (by rw [hx.1]; exact hj)]
    by_cases hmj : j=m
    ·subst hmj
     rw [if_pos rfl,if_pos (show j < j+1 by omega)]
     generalize (zBX w k).2.2.getD j default=y
     unfold toOf
     cases hg : mget s14 y with
     | none =>
      simp only [Option.getD_none,ne_eq,not_true_eq_false,if_false]
      by_cases h9 : y=0
      ·simp [h9]
      simp [h9]
     | some z =>
      have:=(h6 _ (mget_mem hg)).2.2
      simp only [Option.getD_some]
      rw [if_pos this]
    rw [if_neg hmj,hx.2 m hm]
    by_cases h9 : m < j
    ·rw [if_pos h9,if_pos (show m < j+1 by omega)]
    rw [if_neg h9,if_neg (show ¬ m < j+1 by omega)]
   obtain ⟨x,rfl,hx1,hx2⟩:=hq
   have hxe : x=(zBX w k).2.2.map (toOf s14):=ext_getD default (by rw [List.length_map]; exact hx1) fun m hm=>by
    rw [hx1] at hm
    rw [hx2 m hm,if_pos hm,getD_map hm]
   simp only
   have hxr : RelOk ss ((zBX w k).2.1,x):=by
    obtain ⟨t,ht,h6,h7⟩:=r4
    exact ⟨t,ht,h6,h7.trans hx1.symm⟩
   rw [f62_eq s26 (zBX w k).2.1 x (by have:=hs3.2; omega)]
   simp only [Option.bind_some]
   have hxo : ∀ q∈x,q∈keys s26.2.1:=fun q hq=>by
    rw [hxe] at hq
    obtain ⟨y,hy,rfl⟩:=List.mem_map.1 hq
    rw [g2]; exact hto y (r5 y hy)
   have hadd:=g1.addR (by omega) hxr hxo
   have hnf : s26.2.2.2.2∉keys s26.2.2.1:=fun hk=>by have:=g1.rkey _ hk; omega
   have hsr : ∀ k∈keys w.2.2.1,k∈keys s26.2.2.1:=fun k hk=>zBk.2 (by rw [g4 k hk]; exact zBk.1 hk)
   refine zAi (zBf (by rw [List.length_singleton]; omega)) (zAB ⟨_,rfl,?_,g2,?_,fun k' hk'=>?_,fun q hq=>?_,fun e he=>?_⟩)
   ·have : B+500+((i+1 : Nat) : Int)=B+500+(i:Int)+1:=by omega
    rw [this]; exact hadd
   ·simp only [List.map_append,g3,htk]; rfl
   ·show mget (mset s26.2.2.1 s26.2.2.2.2 _) k'=_
    rw [zC1,if_neg (show ¬ k'=s26.2.2.2.2 from fun he=>hnf (he ▸ hsr k' hk'))]; exact g4 k' hk'
   ·show mget (mset s26.2.2.1 s26.2.2.2.2 _) q.2=_
    rw [zC1]
    rcases List.mem_append.1 hq with h7 | h7
    ·rw [if_neg (show ¬ q.2=s26.2.2.2.2 from fun he=>hnf (he ▸ zBk.2 (by rw [g5 q h7]; rfl)))]; exact g5 q h7
    rw [List.mem_singleton] at h7; subst h7
    rw [if_pos rfl,hxe]
   rcases mset_mem he with h7 | h7
   ·refine .inr ⟨(k,s26.2.2.2.2),by simp,?_⟩
    rw [h7]
   rcases g6 e h7 with h8 | ⟨q,hq,h8⟩
   ·exact .inl h8
   exact .inr ⟨q,by simp [hq],h8⟩
  obtain ⟨⟨s26,s27⟩,rfl,g1,g2,g3,g4,g5,g6⟩:=hq
  simp only at g1 g2 g3 g4 g5 g6
  rw [List.take_length] at g3
  have hI2 : IW ss (B+1500) s26:=g1.mono (by omega)
  simp only
  rw [zBS]
  refine (zA1 (fun i _=>∀ j,j < i→NotFull ss s26.2.2.1 ((s27.getD j default).2,zBX s26 (s27.getD j default).2)) (fun _=>True) (fun j hj=>absurd hj (by omega)) fun i s hi hs=>?_).bind fun q hq=>?_
  ·unfold f18_b2
   refine zA2 hi ?_
   have hk : (s27.getD i default).2∈keys s26.2.2.1:=zBk.2 (by rw [g5 _ (zBV hi)]; rfl)
   obtain ⟨r1,r2,r3,r4,r5⟩:=hI2.rk _ (zCR hI2.rn hk)
   refine Tot.bind (f63_full hS hI2 (by omega) (e:=((s27.getD i default).2,zBX s26 (s27.getD i default).2)) r4) fun b hb=>?_
   refine zAR (fun _=>zAB (.inr ⟨_,rfl,trivial⟩)) (fun h7=>zAB (.inl ⟨_,rfl,fun j hj=>?_⟩))
   rcases Nat.lt_or_ge j i with h8 | h8
   ·exact hs j h8
   have : j=i:=by omega
   subst this; exact hb h7
  rcases hq with ⟨_,rfl,hnf⟩ | ⟨_,rfl,_⟩
  ·refine zAR (fun _=>zAB ⟨hm,hc,fun h=>h,.inl ⟨by simp,.inr (.inr (.inl rfl))⟩⟩) (fun h7=>zAB ⟨hI2,?_,fun hmx=>?_,.inr ⟨rfl,hf,o,ho,hA,hp,h4,g3,?_,?_,g4,g5⟩⟩)
   ·have:=of_decide_eq_false h7
    show s26.2.2.1.length≤1000; omega
   ·refine hmx.add hI2.rn fun e he=>?_
    rcases g6 e he with h8 | ⟨q,hq,h8⟩
    ·exact .inl h8
    right
    obtain ⟨j,hj,rfl⟩:=zB4 default hq
    have h9:=hnf j hj
    have h10 : e=((s27.getD j default).2,zBX s26 (s27.getD j default).2):=by
     refine Prod.ext h8.symm ?_
     show e.2=zBX s26 (s27.getD j default).2
     rw [h8,zBX,mem_mget hI2.rn he]; rfl
    rw [h10]; exact h9
   ·rw [g2]; exact h5
   rw [g2]; exact fun q hq=>⟨(h6 q hq).1,(h6 q hq).2.1⟩
  exact zAB ⟨hm,hc,fun h=>h,.inl ⟨by simp,.inl rfl⟩⟩
 exact zAB ⟨hm,hc,fun h=>h,.inl ⟨by simp,.inr (.inr (.inl rfl))⟩⟩
theorem tot_lrun {S R:Type}{b:S→Option (S ⊕ R)}(Inv:S→Prop) (μ:S→Nat) (Q:R→Prop) (h:∀ s,Inv s→Tot (b s) fun o=>(∃ s',o=.inl s'∧Inv s'∧μ s' < μ s)∨∃ r,o=.inr r∧Q r) : ∀ (k:Nat) (s:S),Inv s→μ s < k→Tot (lrun b k s) Q:=by
 intro k
 induction k with
 | zero=>intro s _ hk; omega
 | succ k ih =>
  intro s hs hk
  obtain ⟨o,h1,h2⟩:=h s hs
  simp only [lrun,h1,Option.bind_some]
  rcases h2 with ⟨s',rfl,h3,h4⟩ | ⟨r,rfl,h3⟩
  ·exact ih s' h3 (by omega)
  exact zAB h3
def univ (p:Int) (l:List (List Int)) : List Int:=p::l.flatten
theorem univ_len {p:Int} : ∀ {l:List (List Int)},(∀ x∈l,x.length≤3)→(univ p l).length≤1+3 * l.length:=by
 intro l
 induction l with
 | nil=>intro _; simp [univ]
 | cons x l ih =>
  intro h
  have h1:=ih fun y hy=>h y (List.mem_cons_of_mem _ hy)
  have h2:=h x (by simp)
  simp only [univ,List.length_cons,List.flatten_cons,List.length_append] at h1 ⊢
  omega
theorem f46_t {ss:List zBU}(hS:SS ss){B:Int}{w:PW}(h:IW ss B w) (hB:B≤1000000) (p n:Int) : Tot (f46 w p n) fun _=>True:=by
 unfold f46
 refine zAR (fun _=>zAB trivial) (fun _=>?_)
 refine (f50_t w [p]).bind fun x2 hx=>?_
 refine zAR (fun _=>zAB trivial) (fun h0=>?_)
 have h0' : x2=0:=by simpa using h0
 have hp : p∈keys w.2.1:=by
  rcases hx with ⟨h2,_⟩ | ⟨h2,_⟩ | ⟨_,_,h2⟩
  ·omega
  ·omega
  exact h2 p (by simp)
 have hUo : ∀ x∈univ p (w.2.2.1.map (·.2.2.2)),x∈keys w.2.1:=fun x hx=>by
  rcases List.mem_cons.1 hx with h1 | h1
  ·subst h1; exact hp
  obtain ⟨l,hl,h2⟩:=List.mem_flatten.1 h1
  obtain ⟨e,he,rfl⟩:=List.mem_map.1 hl
  exact (h.rk e he).2.2.2.2 x h2
 have hUl : (univ p (w.2.2.1.map (·.2.2.2))).length≤1+3 * w.2.2.1.length:=by
  have:=univ_len (p:=p) (l:=w.2.2.1.map (·.2.2.2)) fun x hx=>by
   obtain ⟨e,he,rfl⟩:=List.mem_map.1 hx
   exact (zCL hS (h.rk e he).2.2.2.1).2
  rw [List.length_map] at this; exact this
 have hUe : ∀ e∈w.2.2.1,∀ x∈e.2.2.2,x∈univ p (w.2.2.1.map (·.2.2.2)):=fun e he x hx =>
  List.mem_cons_of_mem _ (List.mem_flatten.2 ⟨_,List.mem_map.2 ⟨e,he,rfl⟩,hx⟩)
 have hUp : p∈univ p (w.2.2.1.map (·.2.2.2)):=by simp [univ]
 generalize univ p (w.2.2.1.map (·.2.2.2))=U at hUo hUl hUe hUp
 have hsl : ∀ s : BM,TS s→(∀ x∈keys s,x∈U)→s.length≤U.length:=fun s h1 h2=>by
  have:=zBj h1.1 h2
  rw [keys,List.length_map] at this; exact this
 refine (tot_lrun (b:=f46_b0 w) (fun s=>TS s.2.2∧(∀ x∈keys s.2.2,x∈U)∧1≤s.2.2.length) (fun s=>if (s.2.2.length : Int)=s.2.1 then 0 else 1+U.length - s.2.2.length) (fun r=>TS r∧∀ x∈keys r,x∈U) (fun s hs=>?_) _ _ ⟨TS.nil.set p,fun x hx=>?_,?_⟩ ?_).bind fun r hr=>?_
 ·obtain ⟨s6,s7,s8⟩:=s
  obtain ⟨h1,h2,h3⟩:=hs
  simp only at h1 h2 h3
  unfold f46_b0
  refine zAR (fun h4=>?_) (fun _=>zAB (.inr ⟨_,rfl,h1,h2⟩))
  simp only [Bool.and_eq_true,Bool.not_eq_true',decide_eq_false_iff_not] at h4
  simp only [zBs,Option.bind_some]
  refine (tot_mfold (fun s:BM=>TS s∧(∀ x∈keys s,x∈U)∧∀ x∈keys s8,x∈keys s) (fun _ _=>True) (fun s e he hs=>?_) ⟨h1,h2,fun x hx=>hx⟩).bind fun o ho=>?_
  ·unfold f46_m1
   rw [f66_eq (q:=fun y1=>f93 y1 s8) (fun y=>(mget s8 y).getD false) (fun y _=>rfl)]
   simp only [Option.bind_some]
   refine zAR (fun _=>?_) (fun _=>zAB ⟨_,rfl,hs,trivial,fun _ _=>trivial⟩)
   rw [zBS]
   refine (zAq (fun i (s:BM)=>TS s∧(∀ x∈keys s,x∈U)∧∀ x∈keys s8,x∈keys s) hs fun i s hi hs=>?_).bind fun o ho=>?_
   ·unfold f46_b2
    refine zA2 hi (zAB ⟨_,rfl,hs.1.set _,fun x hx=>?_,fun x hx=>zBc.2 (.inr (hs.2.2 x hx))⟩)
    rcases zBc.1 hx with h5 | h5
    ·subst h5; exact hUe e he _ (zBV hi)
    exact hs.2.1 x h5
   obtain ⟨s',rfl,h5⟩:=ho
   exact zAB ⟨_,rfl,h5,trivial,fun _ _=>trivial⟩
  obtain ⟨s,rfl,⟨h5,h6,h7⟩,_⟩:=ho
  have h8 : s8.length≤s.length:=by
   have:=zBj h1.1 h7
   rw [keys,keys,List.length_map,List.length_map] at this; exact this
  have h9:=hsl s h5 h6
  refine zAB (.inl ⟨_,rfl,⟨h5,h6,by show 1≤s.length; omega⟩,?_⟩)
  show (if (s.length : Int)=(s8.length : Int) then 0 else 1+U.length - s.length) < if (s8.length : Int)=s7 then 0 else 1+U.length - s8.length
  rw [if_neg h4.2]
  split <;> omega
 ·rcases zBc.1 hx with h1 | h1
  ·subst h1; exact hUp
  simp at h1
 ·exact Nat.le_refl 1
 ·show (if ((mset [] p true : BM).length : Int)=-1 then 0 else 1+U.length - (mset [] p true : BM).length) < _
  rw [if_neg (by omega)]
  have : (mset [] p true : BM).length=1:=rfl
  omega
 have hn:=h.no
 show Tot ((f52 r).bind fun x17=>some ((0:Int),x17)) _
 rw [f52_eq hr.1 (fun x hx=>h.ok x (hUo x (hr.2 x hx))) (by omega)]
 exact zAB trivial
structure IR (ss:List zBU) (B:Int) (w:RW) : Prop where
 srt : w.1=ss
 rk : ∀ e∈w.2.2.1,RelOk ss e.2
 ps : ∀ e∈w.2.2.1,0≤e.1
 ol : w.2.1.length≤2000
 rl : w.2.2.1.length≤2000
 nr : 0≤w.2.2.2.2∧w.2.2.2.2≤B
theorem IR.new {p:List zBU} : IR p 1 (p,[],[],1,1):=⟨rfl,fun e he=>by simp at he,fun e he=>by simp at he,by simp,by simp,⟨by simp,Int.le_refl _⟩⟩
theorem IR.mono {ss:List zBU}{B C:Int}{w:RW}(h:IR ss B w) (hC:B≤C) : IR ss C w:=⟨h.srt,h.rk,h.ps,h.ol,h.rl,⟨h.nr.1,by have:=h.nr.2; omega⟩⟩
theorem f81_t {ss:List zBU}{w:RW}(hw:w.1=ss) (nm:Str) : Tot (f81 w nm) fun r=>(r.2=true∧r.1∈ss∧r.1.1=nm)∨(r.2=false∧r.1=(([] : Str),([] : List RoleT))∧∀ s∈ss,s.1≠nm):=by
 subst hw
 unfold f81
 refine (zCE (p:=w.1) (g:=f81_b0 w nm) (fun s:zBU=>decide (s.1=nm)) (fun s=>(s.1,s.2)) (fun i s=>rfl)).bind fun o ho=>?_
 rcases ho with ⟨rfl,h1⟩ | ⟨i,hi,rfl,h1,_⟩
 ·refine zAB (.inr ⟨rfl,rfl,fun s hs he=>?_⟩)
  exact absurd (decide_eq_true he) (List.any_eq_false.1 h1 s hs)
 exact zAB (.inl ⟨rfl,zBV hi,of_decide_eq_true h1⟩)
theorem f81o_t {ss:List zBU}{w:RW}(hw:w.1=ss) (nm:Str) : Tot (f81o w nm) fun r=>(r.2=true∧r.1∈ss∧r.1.1=nm)∨(r.2=false∧r.1=(([] : Str),([] : List RoleT))∧∀ s∈ss,s.1≠nm):=f81_t hw nm
theorem rel_lenR {ss:List zBU}(hS:SS ss){B:Int}{w:RW}(h:IR ss B w){s:zBU}(hs:s∈ss){e:Int×Str×List Int}(he:e∈w.2.2.1) (hn:e.2.1=s.1) : e.2.2.length=s.2.length:=by
 obtain ⟨t,ht,h1,h2⟩:=h.rk e he
 have : t=s:=hS.uniq t ht s hs (h1.trans hn)
 rw [← h2,this]
theorem f83_t {w:RW}(ho:w.2.1.length≤100000) (hr:w.2.2.1.length≤100000) : f83 w=some ():=by
 unfold f83; rw [zBf (by omega),zBf (by omega)]; rfl
theorem f84_t {w:RW}(hr:w.2.2.1.length≤100000) (nm:Str){l:List Int}(hl:l.length≤100000) : f84 w nm l=some ():=by
 unfold f84; rw [zBf (by omega),zBf (by rw [List.length_singleton]; omega)]; rfl
theorem f113_t {ss:List zBU}(hS:SS ss){B:Int}{w:RW}(h:IR ss B w){s:zBU}(hs:s∈ss) (p1:Int){i:Nat}(hi:i < s.2.length) : Tot (f113 w p1 s.1 (i:Int)) fun _=>True:=by
 unfold f113
 rw [zBS]
 refine (zAq (fun _ _=>True) trivial fun j n hj _=>?_).bind fun o ho=>?_
 ·unfold f113_b0
  rw [zBW hj]
  simp only [Option.bind_some]
  refine Tot.bind (Q:=fun o=>∃ n,o=.inl n) (zAi ?_ (zAR (fun _=>zAB ⟨_,rfl⟩) fun _=>zAB ⟨_,rfl⟩)) fun o ho=>?_
  ·by_cases hn : (w.2.2.1.getD j default).2.1=s.1
   ·have:=rel_lenR hS h hs (zBV hj) hn
    rw [zBW (by omega)]; simp
   rw [decide_eq_false hn]; rfl
  obtain ⟨n,rfl⟩:=ho
  exact zAB ⟨_,rfl,trivial⟩
 obtain ⟨n,rfl,_⟩:=ho
 exact zAB trivial
theorem f85_t {ss:List zBU}(hS:SS ss){B:Int}{w:RW}(h:IR ss B w) : Tot (f85 w) fun _=>True:=by
 unfold f85
 rw [zBS]
 refine (zA1 (fun _ _=>True) (fun _=>True) trivial fun i u hi _=>?_).bind fun o ho=>?_
 ·unfold f85_b0
  refine zA2 hi ?_
  have hs : w.1.getD i default∈ss:=h.srt ▸ zBV hi
  generalize w.1.getD i default=s at hs
  rw [zBS]
  refine (zA1 (fun _ _=>True) (fun _=>True) trivial fun j u hj _=>?_).bind fun o ho=>?_
  ·unfold f85_b1
   refine zA2 hj ?_
   rw [zBS]
   refine (zA1 (fun _ _=>True) (fun _=>True) trivial fun k u hk _=>?_).bind fun o ho=>?_
   ·unfold f85_b2
    refine zA2 hk ?_
    obtain ⟨c,hc,_⟩:=f113_t hS h hs (w.2.1.getD k default).1 hj
    rw [hc]
    refine zAi (by simp) (zAR (fun _=>zAB (.inr ⟨_,rfl,trivial⟩)) (fun _=>zAB (.inl ⟨_,rfl,trivial⟩)))
   rcases ho with ⟨_,rfl,_⟩ | ⟨_,rfl,_⟩
   ·exact zAB (.inl ⟨_,rfl,trivial⟩)
   exact zAB (.inr ⟨_,rfl,trivial⟩)
  rcases ho with ⟨_,rfl,_⟩ | ⟨_,rfl,_⟩
  ·exact zAB (.inl ⟨_,rfl,trivial⟩)
  exact zAB (.inr ⟨_,rfl,trivial⟩)
 rcases ho with ⟨_,rfl,_⟩ | ⟨_,rfl,_⟩
 ·exact zAB trivial
 exact zAB trivial
theorem IR.addR {ss:List zBU}{B:Int}{w:RW}(h:IR ss B w) (hB:B≤1000000) (hl:w.2.2.1.length < 2000){nm:Str}{l:List Int}(hr:RelOk ss (nm,l)) : IR ss (B+1) (w.1,w.2.1,w.2.2.1++[(w.2.2.2.2,nm,l)],w.2.2.2.1,w64 (w.2.2.2.2+1)):=by
 have hn:=h.nr
 rw [zCb (by omega) (by omega)]
 exact ⟨h.srt,fun e he=>by
  rcases List.mem_append.1 he with h1 | h1
  ·exact h.rk e h1
  ·rw [List.mem_singleton] at h1; subst h1; exact hr,fun e he=>by
  rcases List.mem_append.1 he with h1 | h1
  ·exact h.ps e h1
  rw [List.mem_singleton] at h1; subst h1; exact hn.1,h.ol,by show (w.2.2.1++[(w.2.2.2.2,nm,l)]).length≤2000; rw [List.length_append,List.length_singleton]; omega,by show 0≤w.2.2.2.2+1; omega,by show w.2.2.2.2+1≤B+1; omega⟩
theorem f32_t {ss:List zBU}(hS:SS ss){B:Int}{w:RW}(hI:IR ss B w) (hB:B≤1000000) (ho:w.2.1.length≤1000) (hc:w.2.2.1.length≤1000){p1:Str}{p2:List Int}(hp:p1.length≤100000) : Tot (f32 w p1 p2) fun r=>IR ss (B+1) r.2.2:=by
 have h:=hI.mono (C:=B+1) (by omega)
 unfold f32
 rw [f80_eq p1 hp]
 simp only [Option.bind_some]
 refine zAR (fun _=>zAB h) (fun _=>?_)
 rw [zBS]
 refine (zA1 (fun _ _=>True) (fun _=>True) trivial fun i u hi _=>?_).bind fun o ho=>?_
 ·unfold f32_b0
  exact zA2 hi (zAR (fun _=>zAB (.inr ⟨_,rfl,trivial⟩)) (fun _=>zAB (.inl ⟨_,rfl,trivial⟩)))
 rcases ho with ⟨_,rfl,_⟩ | ⟨_,rfl,_⟩
 ·refine (f81o_t h.srt p1).bind fun x9 hx=>?_
  refine zAR (fun _=>zAB h) (fun h0=>?_)
  rcases hx with ⟨_,hs,hn⟩ | ⟨h1,_⟩
  ·refine (zA1 (fun _ _=>True) (fun _=>True) trivial fun i u hi _=>?_).bind fun o ho=>?_
   ·unfold f32_b1
    refine zA2 hi ?_
    rw [f82_eq]
    simp only [Option.bind_some]
    exact zAR (fun _=>zAB (.inr ⟨_,rfl,trivial⟩)) (fun _=>zAB (.inl ⟨_,rfl,trivial⟩))
   rcases ho with ⟨_,rfl,_⟩ | ⟨_,rfl,_⟩
   ·refine zAR (fun _=>zAB h) (fun hl=>?_)
    have hl' : p2.length=x9.1.2.length:=by
     simp only [Bool.not_eq_false',decide_eq_true_eq] at hl; omega
    have hr : RelOk ss (p1,p2):=⟨x9.1,hs,hn,hl'.symm⟩
    have h3:=(zCL hS hr).2
    rw [f83_t (by omega) (by omega),f84_t (by omega) p1 (by simp only at h3; omega)]
    simp only [Option.bind_some]
    have hA:=hI.addR hB (by omega) hr
    refine (f85_t hS hA).bind fun b _=>?_
    exact zAR (fun _=>zAB h) (fun _=>zAR (fun _=>zAB h) (fun _=>zAB hA))
   exact zAB h
  rw [h1] at h0; cases h0
 exact zAB h
theorem f36_t (w:RW) (k:Int) : Tot (f36 w k) fun r=>(r.2≠0∧((∀ e∈w.2.2.1,e.1≠k)∨k < 0))∨(r.2=0∧r.1∈w.2.2.1∧r.1.1=k):=by
 unfold f36
 refine zAR (fun h=>zAB (.inl ⟨by show (7:Int)≠0; decide,.inr (of_decide_eq_true h)⟩)) (fun _=>?_)
 refine (zCE (g:=f36_b0 w k) (fun x:Int×Str×List Int=>decide (x.1=k)) (fun x=>(x.1,x.2.1,x.2.2)) (fun i s=>rfl)).bind fun o ho=>?_
 rcases ho with ⟨rfl,h1⟩ | ⟨i,hi,rfl,h1,_⟩
 ·exact zAB (.inl ⟨by show (8:Int)≠0; decide,.inl fun e he h2=>List.any_eq_false.1 h1 e he (decide_eq_true h2)⟩)
 exact zAB (.inr ⟨rfl,zBV hi,of_decide_eq_true h1⟩)
theorem f35_t (w:RW) (k:Int) : Tot (f35 w k) fun _=>True:=by
 unfold f35
 refine zAR (fun h=>zAB trivial) (fun _=>?_)
 refine (zCE (g:=f35_b0 w k) (fun x:Int×Int×Str=>decide (x.1=k)) (fun x=>(x.1,x.2.1,x.2.2)) (fun i s=>rfl)).bind fun o ho=>?_
 rcases ho with ⟨rfl,h1⟩ | ⟨i,hi,rfl,h1,_⟩
 ·exact zAB trivial
 exact zAB trivial
theorem f86_t {ss:List zBU}{B:Int}{w:RW}(h:IR ss B w) (hc:w.2.2.1.length≤1000) (l:List Int) : Tot (f86 w l) fun r=>IR ss B r∧r.2.1=w.2.1∧r.2.2.1.length≤w.2.2.1.length:=by
 unfold f86
 rw [zBS]
 refine (zAq (fun i (s:List (Int×Str×List Int))=>s.length≤i∧∀ e∈s,e∈w.2.2.1) ⟨by simp,fun e he=>by simp at he⟩ fun i s hi hs=>?_).bind fun o ho=>?_
 ·unfold f86_b0
  rw [zBW hi]
  simp only [Option.bind_some,zCp]
  refine Tot.bind (Q:=fun o=>∃ s' : List (Int×Str×List Int),o=.inl s'∧s'.length≤i+1∧∀ e∈s',e∈w.2.2.1) (zAR (fun _=>zAi (zBf (by rw [List.length_singleton]; omega)) (zAB ⟨_,rfl,by rw [List.length_append,List.length_singleton]; omega,fun e he=>?_⟩)) fun _=>zAB ⟨_,rfl,by omega,hs.2⟩) fun o ho=>?_
  ·rcases List.mem_append.1 he with h1 | h1
   ·exact hs.2 e h1
   rw [List.mem_singleton] at h1; subst h1; exact zBV hi
  obtain ⟨s',rfl,h1⟩:=ho
  exact zAB ⟨_,rfl,h1⟩
 obtain ⟨s,rfl,h1,h2⟩:=ho
 exact zAB ⟨⟨h.srt,fun e he=>h.rk e (h2 e he),fun e he=>h.ps e (h2 e he),h.ol,Nat.le_trans h1 h.rl,h.nr⟩,rfl,h1⟩
theorem f34_t {ss:List zBU}{B:Int}{w:RW}(h:IR ss B w) (hc:w.2.2.1.length≤1000) (k:Int) : Tot (f34 w k) fun r=>IR ss B r.2:=by
 unfold f34
 refine (f36_t w k).bind fun x hx=>?_
 refine Tot.bind (Q:=fun o=>∃ w',o=.inl w'∧IR ss B w') (zAR (fun _=>(f86_t h hc [k]).bind fun r hr=>zAB ⟨_,rfl,hr.1⟩) fun _=>zAB ⟨_,rfl,h⟩) fun o ho=>?_
 obtain ⟨w',rfl,h1⟩:=ho
 exact zAB h1
theorem f48_t {ss:List zBU}{B:Int}{w:RW}(h:IR ss B w) (p1:Int) (p2:Str) : Tot (f48 w p1 p2) fun r=>IR ss B r.2.2:=by
 unfold f48
 refine zAR (fun _=>zAB h) (fun _=>?_)
 refine (zBN (show f91 p1=some _ from rfl)).bind fun b _=>?_
 refine zAR (fun _=>zAB h) (fun _=>zAR (fun _=>zAB h) (fun h1=>?_))
 have:=of_decide_eq_false h1
 exact zAi (zBf (by rw [List.length_singleton]; omega)) (zAB ⟨h.srt,h.rk,h.ps,by show (w.2.1++[_]).length≤2000; rw [List.length_append,List.length_singleton]; omega,h.rl,h.nr⟩)
theorem f114_t (s:zBU) (nm:Str) : Tot (f114 s nm) fun r=>r.2=true→0≤r.1∧r.1 < s.2.length:=by
 unfold f114
 rw [zBS]
 refine (zA1 (fun _ _=>True) (fun r:Int=>0≤r∧r < s.2.length) trivial fun i u hi _=>?_).bind fun o ho=>?_
 ·unfold f114_b0
  exact zA2 hi (zAR (fun _=>zAB (.inr ⟨_,rfl,by omega,by omega⟩)) (fun _=>zAB (.inl ⟨_,rfl,trivial⟩)))
 rcases ho with ⟨_,rfl,_⟩ | ⟨_,rfl,h⟩
 ·exact zAB fun h=>by cases h
 exact zAB fun _=>h
theorem f87_t {ss:List zBU}{B:Int}{w:RW}(h:IR ss B w) (p1:Int){p2:Str}{p3:List Str}(h2:p2.length≤100000) (h3:∀ y∈p3,y.length≤100000) (hl:p3.length≤100) : Tot (f87 w p1 p2 p3) fun r=>r.1=0→∃ s∈ss,s.1=p2∧r.2.length=p3.length∧∀ z∈r.2,0≤z∧z < s.2.length:=by
 unfold f87
 refine zAi (zBf (by rw [List.length_singleton]; omega)) ?_
 rw [zBS]
 refine (zA1 (fun _ _=>True) (fun _=>True) trivial fun i u hi _=>?_).bind fun o ho=>?_
 ·unfold f87_b0
  refine zA2 hi ?_
  have hm : ([p2]++p3).getD i default∈[p2]++p3:=zBV hi
  have hy : (([p2]++p3).getD i default).length≤100000:=by
   rcases List.mem_append.1 hm with h1 | h1
   ·rw [List.mem_singleton] at h1; rw [h1]; exact h2
   exact h3 _ h1
  rw [f80_eq _ hy]
  simp only [Option.bind_some]
  exact zAR (fun _=>zAB (.inr ⟨_,rfl,trivial⟩)) (fun _=>zAB (.inl ⟨_,rfl,trivial⟩))
 rcases ho with ⟨_,rfl,_⟩ | ⟨_,rfl,_⟩
 ·refine zAR (fun _=>zAB fun h=>absurd h (by decide)) (fun _=>?_)
  refine (f81_t h.srt p2).bind fun x8 hx=>?_
  refine zAR (fun _=>zAB fun h=>absurd h (by decide)) (fun h0=>?_)
  rcases hx with ⟨_,hs,hn⟩ | ⟨h1,_⟩
  ·rw [zBS]
   refine (zA1 (fun i l=>l.length=i∧∀ z : Int,z∈l→0≤z∧z < x8.1.2.length) (fun _=>True) ⟨rfl,fun z hz=>by simp at hz⟩ fun i l hi hl'=>?_).bind fun o ho=>?_
   ·unfold f87_b1
    refine zA2 hi ?_
    refine (f114_t x8.1 _).bind fun r hr=>?_
    refine zAR (fun _=>zAB (.inr ⟨_,rfl,trivial⟩)) (fun h6=>?_)
    refine zAi (zBf (by rw [List.length_singleton]; omega)) (zAB (.inl ⟨_,rfl,by rw [List.length_append,hl'.1]; rfl,fun z hz=>?_⟩))
    rcases List.mem_append.1 hz with hz | hz
    ·exact hl'.2 z hz
    rw [List.mem_singleton] at hz; subst hz
    exact hr (by simpa using h6)
   rcases ho with ⟨l,rfl,h5,h6⟩ | ⟨_,rfl,_⟩
   ·rw [f82_eq]
    simp only [Option.bind_some]
    exact zAR (fun _=>zAB fun h=>absurd h (by decide)) (fun _=>zAB fun _=>⟨x8.1,hs,hn,h5,h6⟩)
   exact zAB fun h=>absurd h (by decide)
  rw [h1] at h0; cases h0
 exact zAB fun h=>absurd h (by decide)
theorem f37_t {ss:List zBU}(hS:SS ss){B:Int}{w:RW}(h:IR ss B w) (hc:w.2.2.1.length≤1000) (p1:Int){p2 p3:Str}(h2:p2.length≤100000) (h3:p3.length≤100000) : Tot (f37 w p1 p2 p3) fun _=>True:=by
 unfold f37
 refine (f87_t h p1 h2 (p3:=[p3]) (fun y hy=>by rw [List.mem_singleton] at hy; subst hy; exact h3) (by simp)).bind fun x hx=>?_
 refine zAR (fun _=>zAB trivial) (fun h0=>?_)
 obtain ⟨s,hs,h4,h5,h6⟩:=hx (by simpa using h0)
 have hl : 0 < x.2.length:=by rw [h5]; exact Nat.zero_lt_one
 have hz : ix x.2 0=some (x.2.getD 0 default):=zBW (i:=0) hl
 have h7:=h6 _ (zBV (d:=default) hl)
 rw [zBS]
 refine (zAq (fun i (l:List Int)=>l.length≤i) (by simp) fun i l hi hl'=>?_).bind fun o ho=>?_
 ·unfold f37_b0
  rw [zBW hi,hz]
  simp only [Option.bind_some,Option.isSome_some,Bool.or_true,cond_true,Option.getD_some]
  refine Tot.bind (Q:=fun o=>∃ s' : List Int,o=.inl s'∧s'.length≤i+1) (zAi ?_ (zAR (fun _=>zAi (zBf (by rw [List.length_singleton]; omega)) (zAB ⟨_,rfl,by rw [List.length_append,List.length_singleton]; omega⟩)) fun _=>zAB ⟨_,rfl,by omega⟩)) fun o ho=>?_
  ·by_cases hn : (w.2.2.1.getD i default).2.1=p2
   ·have:=rel_lenR hS h hs (zBV hi) (hn.trans h4.symm)
    rw [ix_int h7.1 (by omega)]; simp
   rw [decide_eq_false hn]; rfl
  obtain ⟨s',rfl,h1⟩:=ho
  exact zAB ⟨_,rfl,h1⟩
 obtain ⟨l,rfl,_⟩:=ho
 exact zAB trivial
theorem f39_t {ss:List zBU}(hS:SS ss){B:Int}{w:RW}(h:IR ss B w) (ho:w.2.1.length≤1000) (p1:Int){p2 p3 p4:Str}(h2:p2.length≤100000) (h3:p3.length≤100000) (h4:p4.length≤100000) : Tot (f39 w p1 p2 p3 p4) fun _=>True:=by
 unfold f39
 refine (f87_t h p1 h2 (p3:=[p3,p4]) (fun y hy=>by
  rcases List.mem_cons.1 hy with hy | hy
  ·subst hy; exact h3
  rw [List.mem_singleton] at hy; subst hy; exact h4) (by simp)).bind fun x hx=>?_
 refine zAR (fun _=>zAB trivial) (fun h0=>?_)
 obtain ⟨s,hs,h4,h5,h6⟩:=hx (by simpa using h0)
 have hl : x.2.length=2:=h5
 have hz : ix x.2 0=some (x.2.getD 0 default):=zBW (i:=0) (by omega)
 have hy : ix x.2 1=some (x.2.getD 1 default):=zBW (i:=1) (by omega)
 have h7:=h6 _ (zBV (d:=default) (j:=0) (by omega))
 have h8:=h6 _ (zBV (d:=default) (j:=1) (by omega))
 rw [zBS]
 refine (zAq (fun i (l:List Int)=>l.length≤i) (by simp) fun i l hi hl'=>?_).bind fun o ho=>?_
 ·unfold f39_b0
  refine zA2 hi ?_
  rw [zBS]
  refine (zA1 (fun _ _=>True) (fun _=>True) trivial fun j u hj _=>?_).bind fun o ho=>?_
  ·unfold f39_b1
   rw [zBW hj,hz,hy]
   simp only [Option.bind_some,Option.isSome_some,Bool.or_true,cond_true,Option.getD_some]
   by_cases hn : (w.2.2.1.getD j default).2.1=p2
   ·have h9:=rel_lenR hS h hs (zBV hj) (hn.trans h4.symm)
    have e1 : Option.isSome (ix (w.2.2.1.getD j default).2.2 (x.2.getD 0 default))=true:=by rw [ix_int h7.1 (by omega)]; rfl
    have e2 : Option.isSome (ix (w.2.2.1.getD j default).2.2 (x.2.getD 1 default))=true:=by rw [ix_int h8.1 (by omega)]; rfl
    refine zAi (Bool.or_eq_true _ _ ▸ .inr e1) (zAi (Bool.or_eq_true _ _ ▸ .inr e2) ?_)
    exact zAR (fun _=>zAi (zBf (by rw [List.length_singleton]; omega)) (zAB (.inr ⟨_,rfl,trivial⟩))) (fun _=>zAB (.inl ⟨_,rfl,trivial⟩))
   rw [decide_eq_false hn]
   exact zAB (.inl ⟨_,rfl,trivial⟩)
  rcases ho with ⟨_,rfl,_⟩ | ⟨_,rfl,_⟩
  ·exact zAB ⟨_,rfl,by omega⟩
  exact zAB ⟨_,rfl,by rw [List.length_append,List.length_singleton]; omega⟩
 obtain ⟨l,rfl,_⟩:=ho
 exact zAB trivial
theorem f117_eq (r:RoleT) (z:Int) : Tot (f117 r z) fun _=>True:=by
 unfold f117
 exact zAR (fun _=>zAB trivial) (fun _=>zAR (fun _=>zAB trivial) (fun _=>zAB trivial))
structure RS (U K:List Int) (a b:List Int) : Prop where
 an : a.Nodup
 bn : b.Nodup
 au : ∀ x∈a,x∈U
 bk : ∀ x∈b,x∈K
theorem RS.lenA {U K a b:List Int}(h:RS U K a b) : a.length≤U.length:=zBj h.an h.au
theorem RS.lenB {U K a b:List Int}(h:RS U K a b) : b.length≤K.length:=zBj h.bn h.bk
theorem any_mem {l:List Int}{x:Int} : (l.any fun y=>decide (y=x))=true↔x∈l:=by
 rw [List.any_eq_true]; exact ⟨fun ⟨y,h1,h2⟩=>of_decide_eq_true h2 ▸ h1,fun h=>⟨x,h,decide_eq_true rfl⟩⟩
theorem nodup_snoc {l:List Int}{x:Int}(h:l.Nodup) (hx:x∉l) : (l++[x]).Nodup:=by
 rw [List.nodup_append]
 exact ⟨h,by simp,fun a ha b hb=>by rw [List.mem_singleton] at hb; subst hb; intro he; exact hx (he ▸ ha)⟩
def Grow (U K a0 b0:List Int) (f:Bool) (a b:List Int) : Prop:=RS U K a b∧a0.length+b0.length≤a.length+b.length∧(f=true→a0.length+b0.length < a.length+b.length)
theorem f90_b6_t {U K a0 b0:List Int}(hU:U.length≤100000){e:Int×Str×List Int}(he:∀ x∈e.2.2,x∈U){b:List Int}{z:Int}{i:Nat}(hi:i < e.2.2.length){f:Bool}{a:List Int}(h:Grow U K a0 b0 f a b) : Tot (f90_b6 e z (i:Int) (f,a)) fun o=>∃ f' a',o=.inl (f',a')∧Grow U K a0 b0 f' a' b:=by
 unfold f90_b6
 simp only
 rw [zBW hi]
 simp only [zCp,Option.bind_some,Option.isSome_some,Bool.or_true,cond_true,Option.getD_some]
 have hl:=h.1.lenA
 refine Tot.bind (Q:=fun o=>∃ f' a',o=.inl (f',a')∧Grow U K a0 b0 f' a' b) (zAR (fun h1=>zAi (zBf (by rw [List.length_singleton]; omega)) (zAB ⟨_,_,rfl,?_⟩)) fun _=>zAB ⟨_,_,rfl,h⟩) fun o ho=>?_
 ·rw [Bool.and_eq_true,Bool.not_eq_true'] at h1
  have hn : e.2.2.getD i default∉a:=fun hm=>by rw [any_mem.2 hm] at h1; exact absurd h1.2 (by simp)
  refine ⟨⟨nodup_snoc h.1.an hn,h.1.bn,fun x hx=>?_,h.1.bk⟩,?_,fun _=>?_⟩
  ·rcases List.mem_append.1 hx with h2 | h2
   ·exact h.1.au x h2
   rw [List.mem_singleton] at h2; subst h2; exact he _ (zBV hi)
  ·have:=h.2.1; rw [List.length_append,List.length_singleton]; omega
  have:=h.2.1; rw [List.length_append,List.length_singleton]; omega
 obtain ⟨f',a',rfl,h1⟩:=ho
 exact zAB ⟨f',a',rfl,h1⟩
theorem f90_b5_t {U K a0 b0:List Int}(hU:U.length≤100000) (hK:K.length≤100000){e:Int×Str×List Int}(he:∀ x∈e.2.2,x∈U) (hk:e.1∈K){z:Int}{x79:zBU×Bool}(hl:x79.1.2.length=e.2.2.length){i:Nat}(hi:i < e.2.2.length){f:Bool}{a b:List Int}(h:Grow U K a0 b0 f a b) : Tot (f90_b5 z e x79 (i:Int) (f,a,b)) fun o=>∃ f' a' b',o=.inl (f',a',b')∧Grow U K a0 b0 f' a' b':=by
 unfold f90_b5
 simp only
 rw [zBW hi,zBW (x:=x79.1.2) (by omega)]
 simp only [Option.bind_some,zCp]
 obtain ⟨c,hc,_⟩:=f117_eq (x79.1.2.getD i default) z
 rw [hc]
 simp only [Option.bind_some]
 refine Tot.bind (Q:=fun o=>∃ f' a' b',o=.inl (f',a',b')∧Grow U K a0 b0 f' a' b') (zAR (fun _=>zAB ⟨_,_,_,rfl,h⟩) fun _=>?_) fun o ho=>?_
 ·refine Tot.bind (Q:=fun o=>∃ f' b',o=.inl (f',b')∧Grow U K a0 b0 f' a b') ?_ fun o ho=>?_
  ·have hb:=h.1.lenB
   refine zAR (fun h1=>zAi (zBf (by rw [List.length_singleton]; omega)) (zAB ⟨_,_,rfl,?_⟩)) (fun _=>zAB ⟨_,_,rfl,h⟩)
   have hn : e.1∉b:=fun hm=>by rw [any_mem.2 hm] at h1; cases h1
   refine ⟨⟨h.1.an,nodup_snoc h.1.bn hn,h.1.au,fun x hx=>?_⟩,?_,fun _=>?_⟩
   ·rcases List.mem_append.1 hx with h2 | h2
    ·exact h.1.bk x h2
    rw [List.mem_singleton] at h2; subst h2; exact hk
   ·have:=h.2.1; rw [List.length_append,List.length_singleton]; omega
   have:=h.2.1; rw [List.length_append,List.length_singleton]; omega
  obtain ⟨f',b',rfl,h1⟩:=ho
  simp only
  rw [zBS]
  refine (zAq (fun _ (s:Bool×List Int)=>Grow U K a0 b0 s.1 s.2 b') h1 fun j s hj hs=>?_).bind fun o ho=>?_
  ·obtain ⟨f2,a2⟩:=s
   refine (f90_b6_t hU he hj hs).mono fun o ho=>?_
   obtain ⟨f3,a3,rfl,h3⟩:=ho
   exact ⟨_,rfl,h3⟩
  obtain ⟨⟨f2,a2⟩,rfl,h3⟩:=ho
  exact zAB ⟨_,_,_,rfl,h3⟩
 obtain ⟨f',a',b',rfl,h1⟩:=ho
 exact zAB ⟨_,_,_,rfl,h1⟩
theorem f90_b4_t {ss:List zBU}(hS:SS ss){B:Int}{w:RW}(h:IR ss B w){U a0 b0:List Int}(hU:U.length≤100000) (hK:w.2.2.1.length≤100000) (he:∀ e∈w.2.2.1,∀ x∈e.2.2,x∈U) (z:Int){i:Nat}(hi:i < w.2.2.1.length){f:Bool}{a b:List Int}(hG:Grow U (w.2.2.1.map (·.1)) a0 b0 f a b) : Tot (f90_b4 w z (i:Int) (f,a,b)) fun o=>∃ f' a' b',o=.inl (f',a',b')∧Grow U (w.2.2.1.map (·.1)) a0 b0 f' a' b':=by
 unfold f90_b4
 simp only
 rw [zBW hi]
 simp only [Option.bind_some]
 have hm : w.2.2.1.getD i default∈w.2.2.1:=zBV hi
 generalize w.2.2.1.getD i default=e at hm
 refine (f81_t h.srt e.2.1).bind fun x79 hx=>?_
 have hl : x79.1.2.length=e.2.2.length:=by
  obtain ⟨s,hs,h1,h2⟩:=h.rk e hm
  rcases hx with ⟨_,h3,h4⟩ | ⟨_,_,h3⟩
  ·rw [hS.uniq _ h3 s hs (h4.trans h1.symm)]; exact h2
  exact absurd h1 (h3 s hs)
 rw [zBS]
 refine (zAq (fun _ (s:Bool×List Int×List Int)=>Grow U (w.2.2.1.map (·.1)) a0 b0 s.1 s.2.1 s.2.2) hG fun j s hj hs=>?_).bind fun o ho=>?_
 ·obtain ⟨f2,a2,b2⟩:=s
  refine (f90_b5_t hU (by rw [List.length_map]; exact hK) (he e hm) (List.mem_map.2 ⟨e,hm,rfl⟩) hl hj hs).mono fun o ho=>?_
  obtain ⟨f3,a3,b3,rfl,h3⟩:=ho
  exact ⟨_,rfl,h3⟩
 obtain ⟨⟨f2,a2,b2⟩,rfl,h3⟩:=ho
 exact zAB ⟨_,_,_,rfl,h3⟩
theorem f90_loop {ss:List zBU}(hS:SS ss){B:Int}{w:RW}(h:IR ss B w) (hK:w.2.2.1.length≤1000) (p z:Int) : Tot (lrun (f90_b0 w z) (List.length w.2.1+List.length w.2.2.1 * 4+4) (true,[p],([] : List Int))) fun o=>RS (univ p (w.2.2.1.map (·.2.2))) (w.2.2.1.map (·.1)) o.1 o.2:=by
 have hUl : (univ p (w.2.2.1.map (·.2.2))).length≤1+3 * w.2.2.1.length:=by
  have:=univ_len (p:=p) (l:=w.2.2.1.map (·.2.2)) fun x hx=>by
   obtain ⟨e,he,rfl⟩:=List.mem_map.1 hx
   exact (zCL hS (h.rk e he)).2
  rw [List.length_map] at this; exact this
 have hUe : ∀ e∈w.2.2.1,∀ x∈e.2.2,x∈univ p (w.2.2.1.map (·.2.2)):=fun e he x hx =>
  List.mem_cons_of_mem _ (List.mem_flatten.2 ⟨_,List.mem_map.2 ⟨e,he,rfl⟩,hx⟩)
 have hUp : p∈univ p (w.2.2.1.map (·.2.2)):=by simp [univ]
 have hKl : (w.2.2.1.map (·.1)).length=w.2.2.1.length:=List.length_map _
 generalize univ p (w.2.2.1.map (·.2.2))=U at hUl hUe hUp ⊢
 refine tot_lrun (b:=f90_b0 w z) (fun s=>RS U (w.2.2.1.map (·.1)) s.2.1 s.2.2) (fun s=>if s.1=true then 1+U.length+w.2.2.1.length - (s.2.1.length+s.2.2.length) else 0) _ (fun s hs=>?_) _ _ ⟨by simp,List.nodup_nil,fun x hx=>by rw [List.mem_singleton] at hx; subst hx; exact hUp,fun x hx=>by simp at hx⟩ ?_
 ·obtain ⟨f,a,b⟩:=s
  unfold f90_b0
  refine zAR (fun hf=>?_) (fun _=>zAB (.inr ⟨_,rfl,hs⟩))
  subst hf
  rw [zBS]
  refine (zAq (fun _ (s:Bool×List Int×List Int)=>Grow U (w.2.2.1.map (·.1)) a b s.1 s.2.1 s.2.2) ⟨hs,Nat.le_refl _,fun h=>by cases h⟩ fun j s hj hs=>?_).bind fun o ho=>?_
  ·obtain ⟨f2,a2,b2⟩:=s
   refine (f90_b4_t hS h (by omega) (by omega) hUe z hj hs).mono fun o ho=>?_
   obtain ⟨f3,a3,b3,rfl,h3⟩:=ho
   exact ⟨_,rfl,h3⟩
  obtain ⟨⟨f2,a2,b2⟩,rfl,h3⟩:=ho
  have l1:=h3.1.lenA
  have l2:=h3.1.lenB
  have l3:=hs.lenA
  have l4:=hs.lenB
  simp only at l1 l2 l3 l4
  refine zAB (.inl ⟨_,rfl,h3.1,?_⟩)
  have h4:=h3.2.2
  simp only at h4 ⊢
  cases f2
  ·simp only [Bool.false_eq_true,if_false,if_true]; omega
  have:=h4 rfl
  simp only [if_true]; omega
 simp only [if_true,List.length_singleton,List.length_nil]; omega
theorem f90_t {ss:List zBU}(hS:SS ss){B:Int}{w:RW}(h:IR ss B w) (ho:w.2.1.length≤1000) (hK:w.2.2.1.length≤1000) (p z:Int) : Tot (f90 w p z) fun r=>r.1.length≤w.2.1.length∧r.2.1.length≤w.2.2.1.length∧∀ k∈r.2.1,∃ e∈w.2.2.1,e.1=k:=by
 unfold f90
 refine (f90_loop hS h hK p z).bind fun o _=>?_
 obtain ⟨a,b⟩:=o
 simp only
 rw [zBS]
 refine (zAq (fun i (s:List Int×List Int)=>s.1.length≤i∧s.2.length≤i) ⟨by simp,by simp⟩ fun i s hi hs=>?_).bind fun o ho=>?_
 ·obtain ⟨s17,s18⟩:=s
  obtain ⟨h1,h2⟩:=hs
  simp only at h1 h2
  unfold f90_b1
  simp only
  rw [zBW hi]
  simp only [Option.bind_some,zCp]
  refine Tot.bind (Q:=fun o=>∃ s' : List Int×List Int,o=.inl s'∧s'.1.length≤i+1∧s'.2.length≤i+1) (zAR (fun _=>zAi (zBf (by rw [List.length_singleton]; omega)) (zAB ⟨_,rfl,by simp only [List.length_append,List.length_singleton]; omega,by simp only; omega⟩)) fun _=>?_) fun o ho=>?_
  ·rw [zBS]
   refine (zA1 (fun _ _=>True) (fun _=>True) trivial fun j u hj _=>?_).bind fun o ho=>?_
   ·unfold f90_b3
    rw [zBW hj]
    simp only [Option.bind_some,zCp,Option.isSome_some,Bool.or_true,cond_true]
    exact zAR (fun _=>zAi (zBf (by rw [List.length_singleton]; omega)) (zAB (.inr ⟨_,rfl,trivial⟩))) (fun _=>zAB (.inl ⟨_,rfl,trivial⟩))
   rcases ho with ⟨_,rfl,_⟩ | ⟨_,rfl,_⟩
   ·exact zAB ⟨_,rfl,by simp only; omega,by simp only; omega⟩
   exact zAB ⟨_,rfl,by simp only; omega,by simp only [List.length_append,List.length_singleton]; omega⟩
  obtain ⟨⟨x,y⟩,rfl,h3⟩:=ho
  exact zAB ⟨_,rfl,h3⟩
 obtain ⟨⟨x,y⟩,rfl,h3,h4⟩:=ho
 simp only at h3 h4
 simp only
 rw [zBS]
 refine (zAq (fun i (s:List Int)=>s.length≤i∧∀ k∈s,∃ e∈w.2.2.1,e.1=k) ⟨by simp,fun k hk=>by simp at hk⟩ fun i s hi hs=>?_).bind fun o ho=>?_
 ·unfold f90_b2
  rw [zBW hi]
  simp only [Option.bind_some,zCp]
  refine Tot.bind (Q:=fun o=>∃ s' : List Int,o=.inl s'∧s'.length≤i+1∧∀ k∈s',∃ e∈w.2.2.1,e.1=k) (zAR (fun _=>zAi (zBf (by rw [List.length_singleton]; omega)) (zAB ⟨_,rfl,by rw [List.length_append,List.length_singleton]; omega,fun k hk=>?_⟩)) fun _=>zAB ⟨_,rfl,by omega,hs.2⟩) fun o ho=>?_
  ·rcases List.mem_append.1 hk with h5 | h5
   ·exact hs.2 k h5
   rw [List.mem_singleton] at h5; subst h5; exact ⟨_,zBV hi,rfl⟩
  obtain ⟨s',rfl,h5⟩:=ho
  exact zAB ⟨_,rfl,h5⟩
 obtain ⟨s,rfl,h5,h6⟩:=ho
 exact zAB ⟨h3,h5,h6⟩
theorem f40_t {ss:List zBU}(hS:SS ss){B:Int}{w:RW}(h:IR ss B w) (ho:w.2.1.length≤1000) (hK:w.2.2.1.length≤1000) (p z:Int) : Tot (f40 w p z) fun _=>True:=by
 unfold f40
 refine zAR (fun _=>zAB trivial) (fun _=>?_)
 rw [f82_eq]
 simp only [Option.bind_some]
 refine zAR (fun _=>zAB trivial) (fun _=>?_)
 exact (f90_t hS h ho hK p z).bind fun _ _=>zAB trivial
theorem f44_t {ss:List zBU}(hS:SS ss){B:Int}{w:RW}(h:IR ss B w) (ho:w.2.1.length≤1000) (hK:w.2.2.1.length≤1000) (p v:Int) : Tot (f44 w p v) fun r=>IR ss B r.2.2:=by
 unfold f44
 refine (zBN (show f91 v=some _ from rfl)).bind fun b _=>?_
 refine zAR (fun _=>zAB h) (fun _=>?_)
 rw [f82_eq]
 simp only [Option.bind_some]
 refine zAR (fun _=>zAB h) (fun _=>?_)
 refine (f90_t hS h ho hK p 2).bind fun x8 _=>?_
 rw [zBS]
 refine (zAq (fun i (s:List (Int×Int×Str))=>s.length=w.2.1.length) rfl fun i s hi hs=>?_).bind fun o ho=>?_
 ·unfold f44_b0
  rw [zBW (by omega)]
  simp only [Option.bind_some,zCp]
  refine Tot.bind (Q:=fun o=>∃ s' : List (Int×Int×Str),o=.inl s'∧s'.length=w.2.1.length) (zAR (fun _=>zAB ⟨_,rfl,by rw [List.length_set]; exact hs⟩) fun _=>zAB ⟨_,rfl,hs⟩) fun o ho=>?_
  obtain ⟨s',rfl,h5⟩:=ho
  exact zAB ⟨_,rfl,h5⟩
 obtain ⟨s,rfl,hl⟩:=ho
 exact zAB ⟨h.srt,h.rk,h.ps,by show s.length≤2000; omega,h.rl,h.nr⟩
theorem f45_t {ss:List zBU}(hS:SS ss){B:Int}{w:RW}(h:IR ss B w) (ho:w.2.1.length≤1000) (hK:w.2.2.1.length≤1000) (p:Int) : Tot (f45 w p) fun r=>IR ss B r.2.2.2:=by
 unfold f45
 refine zAR (fun _=>zAB h) (fun _=>?_)
 rw [f82_eq]
 simp only [Option.bind_some]
 refine zAR (fun _=>zAB h) (fun _=>?_)
 refine (f90_t hS h ho hK p 3).bind fun x6 _=>?_
 rw [zBS]
 refine (zAq (fun i (s:List Int)=>s.length≤i) (by simp) fun i s hi hs=>?_).bind fun o ho'=>?_
 ·unfold f45_b0
  rw [zBW hi]
  simp only [Option.bind_some,zCp]
  rw [zBS]
  refine Tot.bind (Q:=fun o=>∃ s' : List Int,o=.inl s'∧s'.length≤i+1) ?_ fun o ho=>?_
  ·refine (zAq (fun _ (_:Bool)=>True) trivial fun j b hj _=>?_).bind fun o ho=>?_
   ·unfold f45_b2
    rw [zBW hj]
    simp only [Option.bind_some,zCp,Option.isSome_some,Bool.or_true,cond_true]
    exact zAB ⟨_,rfl,trivial⟩
   obtain ⟨b,rfl,_⟩:=ho
   exact zAR (fun _=>zAi (zBf (by rw [List.length_singleton]; omega)) (zAB ⟨_,rfl,by rw [List.length_append,List.length_singleton]; omega⟩)) fun _=>zAB ⟨_,rfl,by omega⟩
  obtain ⟨s',rfl,h5⟩:=ho
  exact zAB ⟨_,rfl,h5⟩
 obtain ⟨s,rfl,_⟩:=ho'
 refine (f86_t h hK s).bind fun x15 hx=>?_
 rw [zBS]
 refine (zAq (fun i (s:List (Int×Int×Str))=>s.length≤i) (by simp) fun i s hi hs=>?_).bind fun o ho'=>?_
 ·unfold f45_b1
  rw [zBW hi]
  rw [hx.2.1] at hi
  simp only [Option.bind_some,zCp]
  refine Tot.bind (Q:=fun o=>∃ s' : List (Int×Int×Str),o=.inl s'∧s'.length≤i+1) (zAR (fun _=>zAi (zBf (by rw [List.length_singleton]; omega)) (zAB ⟨_,rfl,by rw [List.length_append,List.length_singleton]; omega⟩)) fun _=>zAB ⟨_,rfl,by omega⟩) fun o ho=>?_
  obtain ⟨s',rfl,h5⟩:=ho
  exact zAB ⟨_,rfl,h5⟩
 obtain ⟨s,rfl,hl⟩:=ho'
 exact zAB ⟨hx.1.srt,hx.1.rk,hx.1.ps,by show s.length≤2000; rw [hx.2.1] at hl; omega,hx.1.rl,hx.1.nr⟩
theorem f47_t {ss:List zBU}(hS:SS ss){B:Int}{w:RW}(h:IR ss B w) (ho:w.2.1.length≤1000) (hK:w.2.2.1.length≤1000) (p n:Int) : Tot (f47 w p n) fun _=>True:=by
 unfold f47
 refine zAR (fun _=>zAB trivial) (fun _=>?_)
 rw [f82_eq]
 simp only [Option.bind_some]
 refine zAR (fun _=>zAB trivial) (fun _=>?_)
 have hUl : (univ p (w.2.2.1.map (·.2.2))).length≤1+3 * w.2.2.1.length:=by
  have:=univ_len (p:=p) (l:=w.2.2.1.map (·.2.2)) fun x hx=>by
   obtain ⟨e,he,rfl⟩:=List.mem_map.1 hx
   exact (zCL hS (h.rk e he)).2
  rw [List.length_map] at this; exact this
 have hUe : ∀ e∈w.2.2.1,∀ x∈e.2.2,x∈univ p (w.2.2.1.map (·.2.2)):=fun e he x hx =>
  List.mem_cons_of_mem _ (List.mem_flatten.2 ⟨_,List.mem_map.2 ⟨e,he,rfl⟩,hx⟩)
 have hUp : p∈univ p (w.2.2.1.map (·.2.2)):=by simp [univ]
 generalize univ p (w.2.2.1.map (·.2.2))=U at hUl hUe hUp
 refine (tot_lrun (b:=f47_b0 w n) (fun s=>0≤s.1∧s.1≤w.2.1.length∧s.2.Nodup∧∀ x∈s.2,x∈U) (fun s=>(w.2.1.length - s.1).toNat) (fun _=>True) (fun s hs=>?_) _ _ ⟨Int.le_refl _,by show (0:Int)≤_; omega,by simp,fun x hx=>by rw [List.mem_singleton] at hx; subst hx; exact hUp⟩ (by simp only; omega)).bind fun r _=>?_
 ·obtain ⟨s6,s7⟩:=s
  obtain ⟨h1,h2,h3,h4⟩:=hs
  simp only at h1 h2 h3 h4
  unfold f47_b0
  refine zAR (fun h5=>?_) (fun _=>zAB (.inr ⟨_,rfl,trivial⟩))
  have h5':=of_decide_eq_true h5
  have h6 : s6 < w.2.1.length:=by omega
  have h7:=zBj h3 h4
  refine zAi (zBf (by omega)) ?_
  rw [zBS]
  refine (zAq (fun _ (s:List Int)=>s.Nodup∧∀ x∈s,x∈U) ⟨h3,h4⟩ fun i s hi hs=>?_).bind fun o ho=>?_
  ·unfold f47_b2
   refine zA2 hi ?_
   have hm : w.2.2.1.getD i default∈w.2.2.1:=zBV hi
   generalize w.2.2.1.getD i default=e at hm
   rw [zBS]
   refine (zAq (fun _ (_:Bool)=>True) trivial fun j b hj _=>?_).bind fun o ho=>?_
   ·unfold f47_b3
    rw [zBW hj]
    simp only [Option.bind_some,zCp,Option.isSome_some,Bool.or_true,cond_true]
    exact zAB ⟨_,rfl,trivial⟩
   obtain ⟨b,rfl,_⟩:=ho
   refine (zAq (fun _ (s:List Int)=>s.Nodup∧∀ x∈s,x∈U) hs fun j s hj hs=>?_).bind fun o ho=>?_
   ·unfold f47_b4
    rw [zBW hj]
    simp only [Option.bind_some,zCp,Option.isSome_some,Bool.or_true,cond_true,Option.getD_some]
    have h8:=zBj hs.1 hs.2
    refine Tot.bind (Q:=fun o=>∃ s' : List Int,o=.inl s'∧s'.Nodup∧∀ x∈s',x∈U) (zAR (fun h9=>zAi (zBf (by rw [List.length_singleton]; omega)) (zAB ⟨_,rfl,nodup_snoc hs.1 fun hm=>?_,fun x hx=>?_⟩)) fun _=>zAB ⟨_,rfl,hs⟩) fun o ho=>?_
    ·rw [any_mem.2 hm] at h9; simp at h9
    ·rcases List.mem_append.1 hx with h10 | h10
     ·exact hs.2 x h10
     rw [List.mem_singleton] at h10; subst h10; exact hUe e hm _ (zBV hj)
    obtain ⟨s',rfl,h10⟩:=ho
    exact zAB ⟨_,rfl,h10⟩
   obtain ⟨s',rfl,h10⟩:=ho
   exact zAB ⟨_,rfl,h10⟩
  obtain ⟨s',rfl,h10⟩:=ho
  have e1 : w64 (s6+1)=s6+1:=zCb (by omega) (by omega)
  refine zAB (.inl ⟨_,rfl,⟨?_,?_,h10⟩,?_⟩)
  ·simp only [e1]; omega
  ·simp only [e1]; omega
  simp only [e1]; omega
 show Tot ((rng (f47_b1 w r) (Int.toNat (List.length w.2.1 : Int)) 0 ([] : List Int)).bind _) _
 rw [zBS]
 refine (zAq (fun i (s:List Int)=>s.length≤i) (by simp) fun i s hi hs=>?_).bind fun o ho'=>?_
 ·unfold f47_b1
  rw [zBW hi]
  simp only [Option.bind_some,zCp]
  refine Tot.bind (Q:=fun o=>∃ s' : List Int,o=.inl s'∧s'.length≤i+1) (zAR (fun _=>zAi (zBf (by rw [List.length_singleton]; omega)) (zAB ⟨_,rfl,by rw [List.length_append,List.length_singleton]; omega⟩)) fun _=>zAB ⟨_,rfl,by omega⟩) fun o ho=>?_
  obtain ⟨s',rfl,h5⟩:=ho
  exact zAB ⟨_,rfl,h5⟩
 obtain ⟨s,rfl,_⟩:=ho'
 exact zAB trivial
theorem f41_t {ss:List zBU}(hS:SS ss){B:Int}{w:RW}(h:IR ss B w) (hB:B≤900000) (ho:w.2.1.length≤500) (hK:w.2.2.1.length≤500) (p v:Int) : Tot (f41 w p v) fun r=>IR ss (B+1000) r.2.2.2:=by
 have hm:=h.mono (C:=B+1000) (by omega)
 unfold f41
 refine (zBN (show f91 v=some _ from rfl)).bind fun b _=>?_
 refine zAR (fun _=>zAB hm) (fun _=>?_)
 rw [f82_eq]
 simp only [Option.bind_some]
 refine zAR (fun _=>zAB hm) (fun _=>?_)
 refine (f90_t hS h (by omega) (by omega) p 1).bind fun x8 hx=>?_
 obtain ⟨hx1,hx2,hx3⟩:=hx
 rw [f83_t (by omega) (by omega)]
 simp only [Option.bind_some]
 rw [zBS]
 refine (zAq (fun i (s:List (Int×Int)×RW)=>s.1.length≤i∧s.2.1=w.1∧s.2.2.1.length≤w.2.1.length+i∧s.2.2.2.1=w.2.2.1∧s.2.2.2.2.2=w.2.2.2.2) ⟨by simp,rfl,by simp,rfl,rfl⟩ fun i s hi hs=>?_).bind fun o ho'=>?_
 ·obtain ⟨s14,s15⟩:=s
  obtain ⟨h1,h2,h3,h4,h5⟩:=hs
  simp only at h1 h2 h3 h4 h5
  unfold f41_b0
  refine zA2 hi ?_
  refine (f35_t w _).bind fun x66 _=>?_
  refine zAi (zBf (by rw [List.length_singleton]; omega)) (zAi (zBf (by rw [List.length_singleton]; omega)) (zAB ⟨_,rfl,?_,h2,?_,h4,h5⟩))
  ·simp only [List.length_append,List.length_singleton]; omega
  simp only [List.length_append,List.length_singleton]; omega
 obtain ⟨⟨s14,s15⟩,rfl,h1,h2,h3,h4,h5⟩:=ho'
 simp only at h1 h2 h3 h4 h5
 simp only
 rw [zBS]
 refine (zAq (fun i (s:List (Int×Int)×RW)=>s.1.length≤i∧s.2.1=w.1∧s.2.2.1=s15.2.1∧s.2.2.2.1.length≤w.2.2.1.length+i∧(∀ e∈s.2.2.2.1,RelOk ss e.2∧0≤e.1)∧0≤s.2.2.2.2.2∧s.2.2.2.2.2≤B+i) ⟨by simp,h2,rfl,by simp only [h4]; omega,fun e he=>?_,by simp only [h5]; exact h.nr.1,by simp only [h5]; have:=h.nr.2; omega⟩ fun i s hi hs=>?_).bind fun o ho'=>?_
 ·simp only [h4] at he; exact ⟨h.rk e he,h.ps e he⟩
 ·obtain ⟨s23,s24⟩:=s
  obtain ⟨g1,g2,g3,g4,g5,g6,g7⟩:=hs
  simp only at g1 g2 g3 g4 g5 g6 g7
  unfold f41_b1
  refine zA2 hi ?_
  have hk:=hx3 _ (zBV (d:=default) hi)
  generalize x8.2.1.getD i default=k at hk
  refine (f36_t w k).bind fun x37 hx=>?_
  obtain ⟨e,he,rfl⟩:=hk
  have he' : x37.1∈w.2.2.1:=by
   rcases hx with ⟨_,h6 | h6⟩ | ⟨_,h6,_⟩
   ·exact absurd rfl (h6 e he)
   ·have:=h.ps e he; omega
   exact h6
  have hr:=h.rk _ he'
  have h3':=(zCL hS hr).2
  rw [zBS]
  refine (zAq (fun j (s:List Int)=>s.length=j) rfl fun j s hj hs=>?_).bind fun o ho'=>?_
  ·unfold f41_b2
   refine zA2 hj ?_
   rw [zBS]
   have hany:=zCE (g:=f41_b3 s14 (x37.1.2.2.getD j default)) (fun x:Int×Int=>decide (x.1=x37.1.2.2.getD j default)) (fun x=>x.2) (fun i s=>rfl)
   rw [zBS] at hany
   refine hany.bind fun o ho'=>?_
   rcases ho' with ⟨rfl,_⟩ | ⟨_,_,rfl,_⟩
   ·exact zAi (zBf (by rw [List.length_singleton]; omega)) (zAB ⟨_,rfl,by rw [List.length_append,hs]; rfl⟩)
   exact zAi (zBf (by rw [List.length_singleton]; omega)) (zAB ⟨_,rfl,by rw [List.length_append,hs]; rfl⟩)
  obtain ⟨s41,rfl,hl⟩:=ho'
  refine zAi (zBf (by rw [List.length_singleton]; omega)) ?_
  rw [f84_t (by omega) _ (by omega)]
  have e1 : w64 (s24.2.2.2.2+1)=s24.2.2.2.2+1:=zCb (by omega) (by omega)
  refine zAB ⟨_,rfl,?_,g2,g3,?_,fun e he=>?_,?_,?_⟩
  ·simp only [List.length_append,List.length_singleton]; omega
  ·simp only [List.length_append,List.length_singleton]; omega
  ·rcases List.mem_append.1 he with h6 | h6
   ·exact g5 e h6
   rw [List.mem_singleton] at h6; subst h6
   obtain ⟨t,ht,h7,h8⟩:=hr
   exact ⟨⟨t,ht,h7,h8.trans hl.symm⟩,g6⟩
  ·simp only [e1]; omega
  simp only [e1]; omega
 obtain ⟨⟨s23,s24⟩,rfl,g1,g2,g3,g4,g5,g6,g7⟩:=ho'
 simp only at g1 g2 g3 g4 g5 g6 g7
 have hI : IR ss (B+1000) s24:=⟨g2.trans h.srt,fun e he=>(g5 e he).1,fun e he=>(g5 e he).2,by rw [g3]; omega,by omega,⟨g6,by omega⟩⟩
 simp only
 refine (f85_t hS hI).bind fun b _=>?_
 exact zAR (fun _=>zAB hm) (fun _=>zAR (fun _=>zAB hm) (fun _=>zAB hI))
theorem pair_tot {α:Type} [Inhabited α] {p q:List α}{g:Int→Unit→Option (Unit ⊕ Unit)}(f:α→α→Bool) (hg:∀ i s,g i s=(ix p i).bind fun x=>(ix q i).bind fun y=>bif f x y then some (.inr ()) else some (.inl ())) (hl:p.length=q.length) :
  Tot (rng g (Int.toNat (List.length p : Int)) 0 ()) fun o=>(o=.inl ()∧∀ i,i < p.length→f (p.getD i default) (q.getD i default)=false)∨(o=.inr ()∧∃ i,i < p.length∧f (p.getD i default) (q.getD i default)=true):=by
 refine zCs (fun i x=>f x (q.getD i default)) fun i s hi=>?_
 rw [hg,zBW hi,zBW (by omega)]; rfl
theorem list_eq {α:Type} [Inhabited α] {p q:List α}(hl:p.length=q.length) (h:∀ i,i < p.length→p.getD i default=q.getD i default) : p=q:=ext_getD default hl h
theorem f21_eq (p q:List Int) : f21 p q=some (decide (p=q)):=by
 have h : Tot (f21 p q) (fun b=>b=decide (p=q)):=by
  unfold f21
  refine zAR (fun h1=>⟨_,rfl,?_⟩) (fun h1=>?_)
  ·simp only [Bool.not_eq_true',decide_eq_false_iff_not] at h1
   show false=decide (p=q); symm; rw [decide_eq_false_iff_not]; intro he; exact h1 (by rw [he])
  have hl : p.length=q.length:=by simp only [Bool.not_eq_false',decide_eq_true_eq] at h1; omega
  refine (pair_tot (g:=f21_b0 p q) (fun x y=>!decide (x=y)) (fun i s=>rfl) hl).bind fun o ho=>?_
  rcases ho with ⟨rfl,h2⟩ | ⟨rfl,i,hi,h2⟩
  ·refine ⟨_,rfl,?_⟩
   show true=decide (p=q); symm; rw [decide_eq_true_eq]
   exact list_eq hl fun i hi=>by have:=h2 i hi; simpa using this
  refine ⟨_,rfl,?_⟩
  show false=decide (p=q); symm; rw [decide_eq_false_iff_not]; intro he; subst he; simp at h2
 exact h.eq
theorem f42_eq (p q:List (Int×Int)) : f42 p q=some (decide (p=q)):=by
 have h : Tot (f42 p q) (fun b=>b=decide (p=q)):=by
  unfold f42
  refine zAR (fun h1=>⟨_,rfl,?_⟩) (fun h1=>?_)
  ·simp only [Bool.not_eq_true',decide_eq_false_iff_not] at h1
   show false=decide (p=q); symm; rw [decide_eq_false_iff_not]; intro he; exact h1 (by rw [he])
  have hl : p.length=q.length:=by simp only [Bool.not_eq_false',decide_eq_true_eq] at h1; omega
  refine (pair_tot (g:=f42_b0 p q) (fun x y=>!(decide (x.1=y.1)&&decide (x.2=y.2))) (fun i s=>rfl) hl).bind fun o ho=>?_
  rcases ho with ⟨rfl,h2⟩ | ⟨rfl,i,hi,h2⟩
  ·refine ⟨_,rfl,?_⟩
   show true=decide (p=q); symm; rw [decide_eq_true_eq]
   exact list_eq hl fun i hi=>by have:=h2 i hi; simp at this; exact Prod.ext this.1 this.2
  refine ⟨_,rfl,?_⟩
  show false=decide (p=q); symm; rw [decide_eq_false_iff_not]; intro he; subst he; simp at h2
 exact h.eq
abbrev ActT:=ZA
structure Both (ss:List zBU) (B:Int) (w:PW) (r:RW) : Prop where
 iw : IW ss B w
 wl : w.2.2.1.length≤1000
 ir : IR ss B r
 mx : MX ss w.2.2.1
theorem Both.mono {ss:List zBU}{B C:Int}{w:PW}{r:RW}(h:Both ss B w r) (hC:B≤C) : Both ss C w r:=⟨h.iw.mono hC,h.wl,h.ir.mono hC,h.mx⟩
def ShortA (x:ActT) : Prop:=x.2.2.2.2.2.1.length≤100000∧x.2.2.2.2.2.2.1.length≤100000∧x.2.2.2.2.2.2.2.1.length≤100000
theorem f11_t {ss:List zBU}(hS:SS ss){B:Int}{w:PW}{r:RW}(h:Both ss B w r) (hB:B≤800000) (ho:r.2.1.length≤60) (hK:r.2.2.1.length≤80){x:ActT}(hx:ShortA x) : Tot (f11 w r x) fun o=>Both ss (B+1500) o.2.1 o.2.2:=by
 have hm:=h.mono (C:=B+1500) (by omega)
 obtain ⟨hi,hc,hr,hx0⟩:=h
 obtain ⟨x1,x2,x3⟩:=hx
 unfold f11
 refine Tot.bind (Q:=fun o=>∃ b,o=.inl b) ?_ fun o ho'=>?_
 ·exact zAR (fun _=>zAB ⟨_,rfl⟩) (fun _=>zAR (fun _=>zAB ⟨_,rfl⟩) (fun _=>zAR (fun _=>zAB ⟨_,rfl⟩) (fun _=>zAR (fun _=>zAB ⟨_,rfl⟩) (fun _=>zAB ⟨_,rfl⟩))))
 obtain ⟨b,rfl⟩:=ho'
 simp only [f21_eq,f42_eq,Option.bind_some,Option.isSome_some,Bool.or_true,cond_true]
 refine zAR (fun _=>?_) (fun _=>?_)
 ·refine (f24_t hS hi (by omega) hc x1).bind fun y hy=>(f32_t hS hr (by omega) (by omega) (by omega) x1).bind fun z hz=>zAB ⟨hy.1.mono (by omega),hy.2.1,hz.mono (by omega),hy.2.2 hx0⟩
 refine zAR (fun _=>?_) (fun _=>?_)
 ·refine (f33_t hS hi _).bind fun y hy=>(f34_t hr (by omega) _).bind fun z hz=>zAB ⟨hy.1.mono (by omega),Nat.le_trans hy.2.1 hc,hz.mono (by omega),hx0.sub hy.1.rn hy.2.2⟩
 refine zAR (fun _=>?_) (fun _=>?_)
 ·exact (f17_t w _).bind fun y hy=>(f35_t r _).bind fun z hz=>zAB hm
 refine zAR (fun _=>?_) (fun _=>?_)
 ·exact (f14_t hS hi _).bind fun y hy=>(f36_t r _).bind fun z hz=>zAB hm
 refine zAR (fun _=>?_) (fun _=>?_)
 ·exact (f19_t hS hi (by omega) _ x1 x2).bind fun y hy=>(f37_t hS hr (by omega) _ x1 x2).bind fun z hz=>zAB hm
 refine zAR (fun _=>?_) (fun _=>?_)
 ·exact (f38_t hS hi (by omega) _ x1 x2 x3).bind fun y hy=>(f39_t hS hr (by omega) _ x1 x2 x3).bind fun z hz=>zAB hm
 refine zAR (fun _=>?_) (fun _=>?_)
 ·exact (f12_t hS hi (by omega) _ _).bind fun y hy=>(f40_t hS hr (by omega) (by omega) _ _).bind fun z hz=>zAB hm
 refine zAR (fun _=>?_) (fun _=>?_)
 ·exact (f18_x hS hi (by omega) hc _ _).bind fun y hy=>(f41_t hS hr (by omega) (by omega) (by omega) _ _).bind fun z hz=>zAB ⟨hy.1,hy.2.1,hz.mono (by omega),hy.2.2.1 hx0⟩
 refine zAR (fun _=>?_) (fun _=>?_)
 ·exact (f43_t hS hi (by omega) _ _).bind fun y hy=>(f44_t hS hr (by omega) (by omega) _ _).bind fun z hz=>zAB ⟨hy.1.mono (by omega),by rw [hy.2.1]; exact hc,hz.mono (by omega),by rw [hy.2.1]; exact hx0⟩
 refine zAR (fun _=>?_) (fun _=>?_)
 ·exact (f20_t hS hi (by omega) _).bind fun y hy=>(f45_t hS hr (by omega) (by omega) _).bind fun z hz=>zAB ⟨hy.1.mono (by omega),Nat.le_trans hy.2.1 hc,hz.mono (by omega),hx0.sub hy.1.rn hy.2.2.1⟩
 refine zAR (fun _=>?_) (fun _=>?_)
 ·exact (f46_t hS hi (by omega) _ _).bind fun y hy=>(f47_t hS hr (by omega) (by omega) _ _).bind fun z hz=>zAB hm
 exact (f23_t hi (by omega) _ _).bind fun y hy=>(f48_t hr _ _).bind fun z hz=>zAB ⟨hy.1.mono (by omega),by rw [hy.2.2.1]; exact hc,hz.mono (by omega),by rw [hy.2.2.1]; exact hx0⟩
theorem f10_eq (w:RW) (ho:w.2.1.length≤2000) (hK:w.2.2.1.length≤2000) : f10 w=some (decide (60 < (w.2.1.length : Int))||decide (80 < (w.2.2.1.length : Int))):=by
 unfold f10
 rw [f30_eq w (by omega),f31_eq w (by omega)]
 simp only [Option.bind_some,List.length_map,Option.isSome_some,Bool.or_true,cond_true,Option.getD_some]
def Light (p0:List zBU) (p1:List ActT) : Prop:=(∀ s∈p0,shortS s)∧p0.length≤25∧p1.length≤50∧∀ x∈p1,ShortA x
theorem f6_t {p0:List zBU}{p1:List ActT}(h1:∀ x∈p1,x.2.2.2.2.2.1.length≤1000000000000000∧x.2.2.2.2.2.2.1.length≤1000000000000000∧x.2.2.2.2.2.2.2.1.length≤1000000000000000) : Tot (f6 p0 p1) fun b=>b=true→Light p0 p1:=by
 unfold f6
 refine Tot.bind (zCs (p:=p0) (g:=f6_b0 p0) (fun i s=>decide (60 < (s.1.length : Int))||decide (5 < (s.2.length : Int))||s.2.any fun r=>decide (60 < (r.1.length : Int))) fun i s hi=>?_) fun o ho=>?_
 ·unfold f6_b0
  rw [zBW hi]
  simp only [Option.bind_some]
  generalize p0.getD i default=s
  cases hb : decide (60 < (s.1.length : Int))||decide (5 < (s.2.length : Int))
  ·obtain ⟨o,h2,h3⟩:=zCE (p:=s.2) (g:=f6_b2 s) (fun r:RoleT=>decide (60 < (r.1.length : Int))) (fun _=>()) (fun i s=>rfl)
   rw [h2]
   rcases h3 with ⟨rfl,h4⟩ | ⟨j,_,rfl,_,h4,_⟩
   ·rw [h4]; rfl
   rw [h4]; rfl
  rfl
 rcases ho with ⟨rfl,h2⟩ | ⟨rfl,_⟩
 ·refine Tot.bind (zCE (p:=p1) (g:=f6_b1 p1) (fun x:ActT=>((decide (1010 < (List.length x.2.2.2.2.1 : Int)))||(decide (150 < (w64 ((w64 ((List.length x.2.2.2.2.2.1 : Int)+(List.length x.2.2.2.2.2.2.1 : Int)))+(List.length x.2.2.2.2.2.2.2.1 : Int))))))||(decide (6 < (List.length x.2.2.2.2.2.2.2.2 : Int)))) (fun _=>()) (fun i s=>rfl)) fun o ho=>?_
  rcases ho with ⟨rfl,h3⟩ | ⟨_,_,rfl,_⟩
  ·refine zAB fun hb=>?_
   rw [Bool.and_eq_true,decide_eq_true_eq,decide_eq_true_eq] at hb
   refine ⟨fun s hs=>?_,by omega,by omega,fun x hx=>?_⟩
   ·obtain ⟨i,hi,rfl⟩:=zB4 default hs
    have h4:=h2 i hi
    generalize p0.getD i default=s at h4
    simp only [Bool.or_eq_false_iff,decide_eq_false_iff_not,List.any_eq_false,decide_eq_true_eq] at h4
    exact ⟨by omega,by omega,fun r hr=>by have:=h4.2 r hr; omega⟩
   have h4:=List.any_eq_false.1 h3 x hx
   obtain ⟨a1,a2,a3⟩:=h1 x hx
   rw [Bool.not_eq_true] at h4
   simp only [Bool.or_eq_false_iff,decide_eq_false_iff_not] at h4
   obtain ⟨⟨_,h5⟩,_⟩:=h4
   rw [w64_id (z:=(x.2.2.2.2.2.1.length : Int)+(x.2.2.2.2.2.2.1.length : Int)) (by constructor <;> omega),w64_id (by constructor <;> omega)] at h5
   refine ⟨?_,?_,?_⟩ <;> omega
  exact zAB fun h=>by cases h
 exact zAB fun h=>by cases h
theorem run_t {ss:List zBU}(hS:SS ss){p1:List ActT}(hl:p1.length≤50) (hx:∀ x∈p1,ShortA x) : Tot (rng (f3_b0 p1) (Int.toNat (List.length p1 : Int)) 0 (some (ss,[],[],1,1),some (ss,[],[],1,1))) fun o=>(∃ s : Option PW×Option RW,o=.inl s∧∃ w,s.1=some w∧IW ss 100000 w∧w.2.2.1.length≤1000∧MX ss w.2.2.1)∨∃ s,o=.inr s∧∃ w,s=some w∧IW ss 100000 w∧w.2.2.1.length≤1000∧MX ss w.2.2.1:=by
 rw [zBS]
 refine (zA1 (fun i (s:Option PW×Option RW)=>∃ w r,s=(some w,some r)∧Both ss (1+1500 * i) w r) (fun s=>∃ w,s=some w∧IW ss 100000 w∧w.2.2.1.length≤1000∧MX ss w.2.2.1) ⟨_,_,rfl,⟨IW.new,by simp,IR.new,MX.nil hS⟩⟩ fun i s hi hs=>?_).mono fun o ho=>?_
 ·obtain ⟨w,r,rfl,hb⟩:=hs
  unfold f3_b0
  simp only
  refine zA2 hi ?_
  simp only [Option.bind_some]
  rw [f10_eq r hb.ir.ol hb.ir.rl]
  simp only [Option.bind_some]
  refine zAR (fun _=>zAB (.inr ⟨_,rfl,w,rfl,hb.iw.mono (by omega),hb.wl,hb.mx⟩)) (fun h1=>?_)
  simp only [Bool.or_eq_false_iff,decide_eq_false_iff_not] at h1
  refine (f11_t hS hb (by omega) (by omega) (by omega) (hx _ (zBV hi))).bind fun y hy=>?_
  exact zAB (.inl ⟨_,rfl,_,_,rfl,hy.mono (by omega)⟩)
 rcases ho with ⟨s,rfl,w,r,rfl,hb⟩ | h
 ·exact .inl ⟨_,rfl,w,rfl,hb.iw.mono (by omega),hb.wl,hb.mx⟩
 exact .inr h
end Go.Ab
namespace Go.Ab
theorem f15_sort (l:List Int) (x:Int) : f15 (zBT l) x=some (decide (x∈l)):=by
 rw [zCp]; congr 1; rw [Bool.eq_iff_iff,any_mem,zBv,decide_eq_true_eq]
section
variable {ss:List zBU} (hS:SS ss) {a:Nat} {z:Int} (ha:WayN a) (haz:(a:Int)=93+z) {D R T:List Int} {y:Int} {e:Int×Str×List Int} (hr:RelOk ss e.2)
include hS ha haz hr
end
theorem f16_t {ss:List zBU}{B:Int}{w:PW}(h:IW ss B w) (hB:B≤1000000) : f16 w=some (zBT (keys w.2.1)):=by
 unfold f16
 simp only [zBs,Option.bind_some]
 rw [skeys_t h.on h.ok (by have:=h.no; omega)]; rfl
def f5_tail (p2:Int) (x24:PW) : Option Bool :=
 (f12 x24 p2 3).bind fun x26 =>
  (f20 x24 p2).bind fun x28 =>
   bif (!(!(!decide (x26.2.2.2=x28.2.2.1)))||Option.isSome (f21 x26.1 x28.1)) then
    bif (!decide (x26.2.2.2=x28.2.2.1))||(!((f21 x26.1 x28.1).getD default)) then
     (some false)
    else
     ((f16 x28.2.2.2).bind fun x32 =>
     (f13 x28.2.2.2).bind fun x34 =>
     (rng (f5_b1 x28 x32 x34) (Int.toNat (List.length x34 : Int)) 0 ()).bind fun o38=>match o38 with
      | .inl ()=>((f7).bind fun x40=>some x40)
      | .inr ()=>(some false))
   else none
theorem f5_tail_t {ss:List zBU}(hS:SS ss){B:Int}{w:PW}(h:IW ss B w) (hB:B≤900000) (p:Int) : f5_tail p w=some true:=by
 have h1 : Tot (f5_tail p w) (·=true):=by
  unfold f5_tail
  refine (f12_err hS h (by omega) p (z:=3) (by omega) (by omega)).bind fun x26 hx=>?_
  refine (f20_t hS h (by omega) p).bind fun x28 hy=>?_
  obtain ⟨x2,e1,e2,e3,e4⟩:=hx
  obtain ⟨hI,_,_,y2,g1,g2,g3,g4⟩:=hy
  have hxy : x2=y2:=by rw [e1] at g1; cases g1; rfl
  subst hxy
  have hsame : x26.1=x28.1:=by
   by_cases h0 : x2=0
   ·obtain ⟨a,o,h5,_,_,_,_,h6⟩:=e4 h0
    obtain ⟨x5,h7,h8,_⟩:=g4 h0
    rw [h5] at h7; cases h7
    rw [h6,h8]
   rw [e3 h0,(g3 h0).1]
  have hgone : ∀ k∈keys x28.2.2.2.2.1,k∉x28.1:=fun k hk=>by
   by_cases h0 : x2=0
   ·obtain ⟨x5,h7,h8,h9⟩:=g4 h0
    rw [h8]; exact fun h10=>h9 k hk (zBv.1 h10)
   rw [(g3 h0).1]; simp
  rw [f21_eq,e2,g2,hsame]
  simp only [decide_true,Bool.not_true,Bool.not_false,Option.isSome_some,Bool.or_true,cond_true,Option.getD_some,Bool.or_false,cond_false]
  rw [f16_t hI (by omega),f13_t hI (by omega)]
  simp only [Option.bind_some]
  rw [zBS]
  refine (zAq (fun _ _=>True) trivial fun i s hi _=>?_).bind fun q hq=>?_
  ·unfold f5_b1
   refine zA2 hi ?_
   have hk : (zBT (keys x28.2.2.2.2.2.1)).getD i default∈keys x28.2.2.2.2.2.1:=zBv.1 (zBV hi)
   generalize (zBT (keys x28.2.2.2.2.2.1)).getD i default=k at hk
   obtain ⟨_,_,_,hrel,hob⟩:=hI.rk _ (zCR hI.rn hk)
   refine (f14_t hS hI k).bind fun x45 hx=>?_
   rcases hx with ⟨_,h2⟩ | ⟨h2,_,h3⟩
   ·exact absurd hk h2
   obtain ⟨e,v⟩:=x45
   simp only at h2 h3
   subst h2
   rw [show (!decide ((0:Int)=0))=false from rfl]
   simp only [cond_false]
   rw [zBS]
   refine (zAq (fun _ _=>True) trivial fun j s hj _=>?_).bind fun q hq=>?_
   ·unfold f5_b2
    rw [zBW hj]
    have hm : e.2.2.getD j default∈keys x28.2.2.2.2.1:=hob _ (by rw [← h3]; exact zBV hj)
    generalize e.2.2.getD j default=x at hm
    simp only [Option.bind_some]
    rw [f15_sort]
    simp only [zCp,Option.bind_some,Option.isSome_some,Bool.or_true,cond_true,Option.getD_some]
    refine zAR (fun h4=>?_) (fun _=>zAB ⟨_,rfl,trivial⟩)
    exfalso
    rw [Bool.or_eq_true,any_mem,Bool.not_eq_true',decide_eq_false_iff_not] at h4
    rcases h4 with h4 | h4
    ·exact h4 hm
    exact hgone x hm h4
   obtain ⟨_,rfl,_⟩:=hq
   exact zAB ⟨_,rfl,trivial⟩
  obtain ⟨_,rfl,_⟩:=hq
  rw [f7_true]; exact zAB rfl
 exact h1.eq
theorem f5_b01 : f5_b0=f3_b0:=rfl
theorem f5_b3_1 : f5_b3=f5_b1:=rfl
def LenA (x:ActT) : Prop:=x.2.2.2.2.2.1.length≤1000000000000000∧x.2.2.2.2.2.2.1.length≤1000000000000000∧x.2.2.2.2.2.2.2.1.length≤1000000000000000
theorem f5_t {p0:List zBU}{p1:List ActT}(p2:Int) (h1:∀ x∈p1,LenA x) : f5 p0 p1 p2=some true:=by
 have h2 : Tot (f5 p0 p1 p2) (·=true):=by
  unfold f5
  refine (f6_t h1).bind fun b hb=>?_
  refine zAR (fun _=>by rw [f7_true]; exact zAB rfl) (fun h0=>?_)
  obtain ⟨hs,hl0,hl1,hx⟩:=hb (by simpa using h0)
  rw [f8_eq p0 hs hl0,f9_eq p0 hs]
  simp only [Option.bind_some]
  cases hk : zB8 p0
  ·simp only [cond_false]
   rw [show (!decide ((1:Int)=0))=true from rfl]
   rw [f7_true]; exact zAB rfl
  simp only [cond_true,decide_true,Bool.not_true,cond_false]
  have hS:=ss_of hs hk
  rw [f5_b01]
  refine (run_t hS hl1 hx).bind fun o ho=>?_
  rcases ho with ⟨⟨s1,s2⟩,rfl,w,hw,hI,_⟩ | ⟨s,rfl,w,rfl,hI,_⟩
  ·simp only at hw
   subst hw
   exact zBN (f5_tail_t hS hI (by omega) p2)
  rw [f5_b3_1]
  exact zBN (f5_tail_t hS hI (by omega) p2)
 exact h2.eq
end Go.Ab
