/- Lemmas for a law of the seat: what functions of the program do, each stated as a contract of its own (X5). -/
import Derived.Test.YtlfdbjcbmecmlaaGreatX3
import Derived.Test.YtlfdbjcbmecmlaaGreatX4
set_option linter.unusedVariables false
set_option maxRecDepth 100000
set_option maxHeartbeats 4000000
namespace Go.Ab
open Go.RowKit Go.Shelf Go.Proofs Go.Eng
theorem ent117 : Enters Tryz.prog 117:=enters_of Tryz.func117 (by kernel_rfl) rfl
theorem ent90 : Enters Tryz.prog 90:=enters_of Tryz.func90 (by kernel_rfl) rfl
theorem ent91 : Enters Tryz.prog 91:=enters_of Tryz.func91 (by kernel_rfl) rfl
theorem ent35 : Enters Tryz.prog 35:=enters_of Tryz.func35 (by kernel_rfl) rfl
theorem bs52 : BuildS Tryz.prog 52 54 Y4:=zCh (z:=.agg #[.int .i64 0,.int .i64 0,.string ByteArray.empty]) (by kernel_rfl) (by kernel_rfl) rfl
theorem f39_runs {p0:ZR}{p1:Int}{p2:Str}{p3:Str}{p4:Str}{r:Int×List Int}(hr:f39 p0 p1 p2 p3 p4=some r) : Runs Tryz.prog 39 [.rp (R80 p0),.i p1,.str p2,.str p3,.str p4] [] (fun q Hq=>q=[.osl 0,.i r.1]∧Hq=[.sl 3 .i r.2]):=by
 refine zAW Tryz.func39 Tryz.ntmps39 rfl (rs:=[.tmp 10,.tmp 11]) rfl rfl fun w0 X hX=>?_
 obtain ⟨x2,e3,hr⟩:=zA hr
 refine sq<|rg<|V va<|V va<|nl<|an<|sq<|rg<|V vm<|V vm<|V vm<|V vm<|V vm<|?_
 refine V (zAM (t:=.str) (qs:=[(0,[.str p3]),(1,[.str p4])]) (ys:=[p3,p4]) bs139 rfl rfl rfl rfl rfl rfl rfl rfl)<|?_
 refine zAK (zAP (σ:=[]) (as':=[.rp (R80 p0),.i p1,.str p2,.sl .str [p3,p4]]) (f87_runs e3).x ent87 rfl ⟨cv0,cv0,cv0,cv0,trivial⟩ rfl rfl rfl ?_)
 refine V vm<|V vx<|V vx<|V va<|V va<|nl<|an<|sq<|sq<|rg<|V vm<|V vne<|nl<|an<|?_
 refine cnd (fun hc4 hr=>?_) (fun hc4 hr=>?_)
 ·refine sq<|rg<|V vm<|V va<|V va<|?_
  obtain rfl:=Option.some.inj hr
  exact nl<|an<|cr<|zAC (zAe (l':=[(10,.osl 0),(11,.i x2.1)]) (Hs:=[(0,.sl 3 .i ([] : List Int))]) (n:=1) (Wk.trans (zAt (t:=10) 3 .i rfl) (zAA hX [1] 4 rfl rfl wS wO)) rfl rfl rfl ⟨rfl,rfl,trivial⟩)
 ·obtain ⟨o10,e11,hr⟩:=zA hr
  refine sk<|an<|sq<|rg<|V va<|nl<|an<|sq<|sq<|rg<|V vm<|V vnr<|V vfr<|V vlr<|V vnl<|V vm<|nl<|an<|bl<|?_
  refine zAb (t:=35) rfl (fun hl=>?_)
  refine zAI (List.length p0.2.1 : Int) (f39_b0 p0 p1 p2 x2) (fun p=>match p with | (i5,s7)=>(⟨[(0,.rp (R80 p0)),(1,.i p1),(2,.str p2),(10,.nils),(11,.i 0),(12,.osl 0),(14,.osl 1),(35,.sl Y4 p0.2.1),(36,.i (List.length p0.2.1 : Int)),(37,.i i5)],[(0,.sl 3 .i x2.2),(1,.sl 3 .i s7)],2⟩ : AS)) (fun o e st=>match o with | .inr _=>False | .inl s7=>e=.exit 0∧Wk X st ⟨[(10,.nils),(11,.i 0),(14,.osl 0)],[(0,.sl 3 .i s7)],1⟩) (zAf hl) e11 (Wk.trans (zAt (t:=14) 3 .i rfl) (by exact zAA hX [0,1] 4 rfl rfl wS wO)) ?_ ?_
  ·intro e st hx
   rcases o10 with s7 | _
   ·obtain ⟨rfl,hw⟩:=hx
    refine bh<|an<|(zAY hw)<|sq<|rg<|V vm<|V va<|V va<|?_
    obtain rfl:=Option.some.inj hr
    exact nl<|an<|cr<|zAe (l':=[(10,.osl 0),(11,.i 0)]) (Hs:=[(0,.sl 3 .i s7)]) (n:=1) (zAA hX [0] 4 rfl rfl wS wO) rfl rfl rfl ⟨rfl,rfl,trivial⟩
   ·exact hx.elim
  ·rintro i5 s7 o ho
   refine sq<|rg<|V vls<|nl<|an<|sq<|?_
   refine zAO (b:=decide (i5 < (List.length p0.2.1 : Int))) rfl (fun hc12=>?_) (fun hc12=>?_)
   ·obtain ⟨q,hr,rfl⟩:=zA7 hc12 ho
    obtain ⟨x13,e14,hr⟩:=zA hr
    obtain ⟨o17,e18,hr⟩:=zA hr
    refine sk<|an<|sq<|bl<|sq<|rg<|V (zAQ (t:=Y4) (e:=x13) (undX 52 rfl) (szX 54 rfl) rfl rfl e14)<|V vlR<|O oa<|O os<|nl<|an<|sq<|rg<|V vm<|V vnr<|V vfr<|V vlr<|V vnl<|V vm<|nl<|an<|bl<|?_
    refine zAb (t:=44) rfl (fun hl=>?_)
    refine zAI (List.length p0.2.2.1 : Int) (f39_b1 p0 p1 p2 x2 s7 x13) (fun p=>match p with | (i15,())=>(⟨[(0,.rp (R80 p0)),(1,.i p1),(2,.str p2),(10,.nils),(11,.i 0),(12,.osl 0),(14,.osl 1),(16,.ptr 2 0),(35,.sl Y4 p0.2.1),(36,.i (List.length p0.2.1 : Int)),(37,.i i5),(44,.sl Y5 p0.2.2.1),(45,.i (List.length p0.2.2.1 : Int)),(46,.i i15)],[(0,.sl 3 .i x2.2),(1,.sl 3 .i s7),(2,.var 54 [.i x13.1,.i x13.2.1,.str x13.2.2])],3⟩ : AS)) (fun o e st=>match o with | .inl ()=>e=.exit 2∧Wk X st ⟨[(0,.rp (R80 p0)),(1,.i p1),(2,.str p2),(10,.nils),(11,.i 0),(12,.osl 0),(14,.osl 1),(35,.sl Y4 p0.2.1),(36,.i (List.length p0.2.1 : Int)),(37,.i i5)],[(0,.sl 3 .i x2.2),(1,.sl 3 .i s7)],2⟩ | .inr ()=>e=.exit 2∧Wk X st ⟨[(0,.rp (R80 p0)),(1,.i p1),(2,.str p2),(10,.nils),(11,.i 0),(12,.osl 0),(14,.osl 1),(35,.sl Y4 p0.2.1),(36,.i (List.length p0.2.1 : Int)),(37,.i i5)],[(0,.sl 3 .i x2.2),(1,.sl 3 .i (s7++[x13.1]))],2⟩) (zAf hl) e18 (by exact zAA hX [0,1,2] 4 rfl rfl wS wO) ?_ ?_
    ·intro e st hx
     rcases o17 with _ | _
     ·obtain ⟨rfl,hw⟩:=hx
      refine bh<|bn<|an<|(zAY hw)<|rg<|V vad<|V vm<|?_
      obtain rfl:=Option.some.inj hr
      exact zAJ ((zAA hX [0,1] 4 rfl rfl wS wO))
     ·obtain ⟨rfl,hw⟩:=hx
      refine bh<|bn<|an<|(zAY hw)<|rg<|V vad<|V vm<|?_
      obtain rfl:=Option.some.inj hr
      exact zAJ ((zAA hX [0,1] 4 rfl rfl wS wO))
    ·rintro i15 _ o ho
     refine sq<|rg<|V vls<|nl<|an<|sq<|?_
     refine zAO (b:=decide (i15 < (List.length p0.2.2.1 : Int))) rfl (fun hc19=>?_) (fun hc19=>?_)
     ·obtain ⟨q,hr,rfl⟩:=zA7 hc19 ho
      obtain ⟨x20,e21,hr⟩:=zA hr
      refine sk<|an<|sq<|bl<|sq<|rg<|V (zAQ (t:=Y5) (e:=x20) (undX 78 rfl) (szX 42 rfl) rfl rfl e21)<|V vlR<|O oa<|O os<|nl<|an<|sq<|?_
      obtain ⟨h22,hr⟩:=zAN hr
      obtain ⟨h23,hr⟩:=zAN hr
      obtain ⟨h24,hr⟩:=zAN hr
      obtain ⟨h25,hr⟩:=zAN hr
      refine zBE mixed [0,1,2,10,11,12,14,16,35,36,37,44,45,46,18] [(true,.ptr 3 1),(true,.str x20.2.1),(true,.str p2),(true,.bool (decide (x20.2.1=p2))),(true,.bool (decide (x20.2.1=p2))),(decide (x20.2.1=p2),.ptr 3 2),(decide (x20.2.1=p2),.sl .i x20.2.2),(decide (x20.2.1=p2),.osl 0),(decide (x20.2.1=p2),.ep 0 1 (Int.toNat 0) 0),(decide (x20.2.1=p2),.i ((ix x2.2 0).getD default)),(decide (x20.2.1=p2),.rp [.i ((ix x20.2.2 ((ix x2.2 0).getD default)).getD default)]),(decide (x20.2.1=p2),.i ((ix x20.2.2 ((ix x2.2 0).getD default)).getD default)),(decide (x20.2.1=p2),.i p1),(decide (x20.2.1=p2),.bool (decide (((ix x20.2.2 ((ix x2.2 0).getD default)).getD default)=p1))),(true,.bool ((decide (x20.2.1=p2))&&(decide (((ix x20.2.2 ((ix x2.2 0).getD default)).getD default)=p1)))),(true,.bool ((decide (x20.2.1=p2))&&(decide (((ix x20.2.2 ((ix x2.2 0).getD default)).getD default)=p1)))),((decide (x20.2.1=p2))&&(decide (((ix x20.2.2 ((ix x2.2 0).getD default)).getD default)=p1)),.ptr 3 2),((decide (x20.2.1=p2))&&(decide (((ix x20.2.2 ((ix x2.2 0).getD default)).getD default)=p1)),.sl .i x20.2.2),((decide (x20.2.1=p2))&&(decide (((ix x20.2.2 ((ix x2.2 0).getD default)).getD default)=p1)),.osl 0),((decide (x20.2.1=p2))&&(decide (((ix x20.2.2 ((ix x2.2 0).getD default)).getD default)=p1)),.ep 0 1 (Int.toNat 1) 0),((decide (x20.2.1=p2))&&(decide (((ix x20.2.2 ((ix x2.2 0).getD default)).getD default)=p1)),.i ((ix x2.2 1).getD default)),((decide (x20.2.1=p2))&&(decide (((ix x20.2.2 ((ix x2.2 0).getD default)).getD default)=p1)),.rp [.i ((ix x20.2.2 ((ix x2.2 1).getD default)).getD default)]),((decide (x20.2.1=p2))&&(decide (((ix x20.2.2 ((ix x2.2 0).getD default)).getD default)=p1)),.i ((ix x20.2.2 ((ix x2.2 1).getD default)).getD default)),((decide (x20.2.1=p2))&&(decide (((ix x20.2.2 ((ix x2.2 0).getD default)).getD default)=p1)),.ptr 2 0),((decide (x20.2.1=p2))&&(decide (((ix x20.2.2 ((ix x2.2 0).getD default)).getD default)=p1)),.i x13.1),((decide (x20.2.1=p2))&&(decide (((ix x20.2.2 ((ix x2.2 0).getD default)).getD default)=p1)),.bool (decide (((ix x20.2.2 ((ix x2.2 1).getD default)).getD default)=x13.1))),(true,.bool (((decide (x20.2.1=p2))&&(decide (((ix x20.2.2 ((ix x2.2 0).getD default)).getD default)=p1)))&&(decide (((ix x20.2.2 ((ix x2.2 1).getD default)).getD default)=x13.1))))] [[],[0],[],[1,2],[3],[4],[5,4],[4],[7,4],[8,4],[6,9,4],[10,4],[4],[11,12,4],[13,4],[14],[15],[16,15],[15],[18,15],[19,15],[17,20,15],[21,15],[15],[23,15],[22,24,15],[25,15]] [26] rfl rfl rfl rfl rfl ⟨?_,?_,?_,?_,?_,?_,?_,?_,?_,?_,?_,?_,?_,?_,?_,?_,?_,?_,?_,?_,?_,?_,?_,?_,?_,?_,?_,trivial⟩ (zAD ⟨rfl,trivial⟩) ?_
      ·exact oB wfp
      ·exact oB wlp
      ·exact oB wm
      ·exact oB wes
      ·exact oB wm
      ·exact oB wfp
      ·exact oB wlp
      ·exact oB wm
      ·exact zAr ⟨rfl,rfl,rfl,_,rfl,rfl⟩ (fun hg=>zAD ⟨hg,rfl,trivial⟩) (fun hg=>zAn (t:=.i) (undX 33 rfl) (szX 3 rfl) rfl rfl rfl (zAz h22 hg))
      ·exact zAr ⟨rfl,rfl,rfl,_,rfl,rfl⟩ (fun hg=>zAD ⟨hg,rfl,trivial⟩) (fun hg=>zAu (tsX 3 rfl) rfl rfl rfl (zCM (zAz h22 hg)) rfl)
      ·exact zAr ⟨rfl,rfl,rfl,_,rfl,rfl⟩ (fun hg=>zAD ⟨hg,hg,rfl,trivial⟩) (fun hg=>zAQ (t:=.i) (e:=((ix x20.2.2 ((ix x2.2 0).getD default)).getD default)) (undX 33 rfl) (szX 3 rfl) rfl rfl (zAz h23 hg))
      ·exact oB wlr
      ·exact oB wm
      ·exact oB weq
      ·exact zBe
      ·exact oB wm
      ·exact oB wfp
      ·exact oB wlp
      ·exact oB wm
      ·exact zAr ⟨rfl,rfl,rfl,_,rfl,rfl⟩ (fun hg=>zAD ⟨hg,rfl,trivial⟩) (fun hg=>zAn (t:=.i) (undX 33 rfl) (szX 3 rfl) rfl rfl rfl (zAz h24 hg))
      ·exact zAr ⟨rfl,rfl,rfl,_,rfl,rfl⟩ (fun hg=>zAD ⟨hg,rfl,trivial⟩) (fun hg=>zAu (tsX 3 rfl) rfl rfl rfl (zCM (zAz h24 hg)) rfl)
      ·exact zAr ⟨rfl,rfl,rfl,_,rfl,rfl⟩ (fun hg=>zAD ⟨hg,hg,rfl,trivial⟩) (fun hg=>zAQ (t:=.i) (e:=((ix x20.2.2 ((ix x2.2 1).getD default)).getD default)) (undX 33 rfl) (szX 3 rfl) rfl rfl (zAz h25 hg))
      ·exact oB wlr
      ·exact oB wfp
      ·exact oB wlp
      ·exact oB weq
      ·exact zBe
      refine an<|?_
      refine cnd (fun hc26 hr=>?_) (fun hc26 hr=>?_)
      ·refine sq<|rg<|V vm<|V vfp<|V vlp<|?_
       refine V (zAM (t:=.i) (qs:=[(0,[.i x13.1])]) (ys:=[x13.1]) bs33 rfl rfl rfl rfl rfl rfl rfl rfl)<|?_
       obtain ⟨h27,hr⟩:=zAN hr
       refine zAK (zAh rfl rfl zCt rfl rfl rfl h27 rfl ?_)
       refine V va<|?_
       obtain rfl:=Option.some.inj hr
       exact zAJ (zAZ (zAH ((zBF rfl) (zAF (⟨rfl,(zAA hX [0,4] 4 rfl rfl wS wO)⟩)))))
      ·refine sk<|bn<|an<|rg<|V vad<|V vm<|?_
       obtain rfl:=Option.some.inj hr
       exact zAJ ((zAA hX [0,1,2] 4 rfl rfl wS wO))
     ·obtain rfl:=zA8 hc19 ho
      exact zAH (zAF (⟨rfl,(zAA hX [0,1] 4 rfl rfl wS wO)⟩))
   ·obtain rfl:=zA8 hc12 ho
    exact zAH (zAF (⟨rfl,(zAA hX [1] 4 rfl rfl wS wO)⟩))
theorem f12_runs {p0_0:ZW}{p1:Int}{p2:Int}{r:List Int×List Int×List Int×Int}(hr:f12 p0_0 p1 p2=some r) : Runs Tryz.prog 12 [.ptr 0 0,.i p1,.i p2] [.tr E76 (some p0_0)] (fun q Hq=>q=[.sl .i r.1,.sl .i r.2.1,.sl .i r.2.2.1,.i r.2.2.2]∧Hq=[.tr E76 (some p0_0)]):=by
 refine zAW Tryz.func12 Tryz.ntmps12 rfl (rs:=[.tmp 6,.tmp 7,.tmp 8,.tmp 9]) rfl rfl fun w0 X hX=>?_
 refine sq<|rg<|V va<|V va<|V va<|V va<|nl<|an<|sq<|bl<|sq<|rg<|V vm<|?_
 refine V (av_ptrnil (undX 26 rfl) rfl rfl)<|V va<|nl<|an<|?_
 refine zA3 rfl<|sq<|?_
 obtain ⟨h1,hr⟩:=zAN hr
 refine zAa [0,1,2,6,7,8,9] [(true,.i p2),(true,.bool (decide (p2 < 1))),(true,.bool (decide (p2 < 1))),(!(decide (p2 < 1)),.i p2),(!(decide (p2 < 1)),.agg [.fn 94 [] [],.fn 95 [] [],.fn 96 [] []]),(!(decide (p2 < 1)),.i 3),(!(decide (p2 < 1)),.bool (decide (3 < p2))),(true,.bool ((decide (p2 < 1))||(decide (3 < p2)))),(true,.bool ((decide (p2 < 1))||(decide (3 < p2))))] [[],[0],[1],[2],[2],[2],[3,5,2],[6,2],[7]] [8] rfl rfl rfl rfl rfl ⟨?_,?_,?_,?_,?_,?_,?_,?_,?_,trivial⟩ (zAD ⟨rfl,trivial⟩) ?_
 ·exact oB wm
 ·exact oB wls
 ·exact oB wm
 ·exact oB wm
 ·exact zAr ⟨rfl,rfl,rfl,_,rfl,rfl⟩ (fun hg=>zAD ⟨rfl,trivial⟩) (fun hg=>zAV (f49_runs (zAz h1 hg)).x ent49 rfl rfl)
 ·exact oB wm
 ·exact oB wgt
 ·exact zBr
 ·exact oB wa
 refine an<|?_
 refine cnd (fun hc2 hr=>?_) (fun hc2 hr=>?_)
 ·refine sq<|rg<|V va<|V va<|V va<|V va<|?_
  obtain rfl:=Option.some.inj hr
  exact nl<|an<|cr<|zAE (zAC (zAe (l':=[(6,.sl .i ([] : List Int)),(7,.sl .i ([] : List Int)),(8,.sl .i ([] : List Int)),(9,.i 7)]) (Hs:=[(0,.tr E76 (some p0_0))]) (n:=1) (zAA hX [0] 4 rfl rfl ⟨⟨_,rfl,cv2⟩,⟨_,rfl,cv2⟩,⟨_,rfl,cv2⟩,⟨_,rfl,cv0⟩,trivial⟩ wO) rfl rfl rfl ⟨rfl,rfl,rfl,rfl,trivial⟩))
 ·obtain ⟨x3,e4,hr⟩:=zA hr
  refine sk<|bn<|an<|sq<|sq<|rg<|V vm<|V vm<|?_
  refine V (zAM (t:=.i) (qs:=[(0,[.i p1])]) (ys:=[p1]) bs33 rfl rfl rfl rfl rfl rfl rfl rfl)<|?_
  refine zAG (zAd (i:=0) (W76 p0_0 1 2) [.map .i Y4 p0_0.2.1,.map .i Y5 p0_0.2.2.1] rfl rfl rfl rfl)<|V (zAj (as':=[.ptr 0 0,.sl .i [p1]]) (f50_runs e4).x ent50 rfl ⟨cv0,cv0,trivial⟩ rfl rfl)<|V va<|nl<|an<|sq<|rg<|V vm<|V vne<|nl<|an<|?_
  refine cnd (fun hc5 hr=>?_) (fun hc5 hr=>?_)
  ·refine sq<|rg<|V vm<|V va<|V va<|V va<|V va<|?_
   obtain rfl:=Option.some.inj hr
   exact nl<|an<|cr<|zAC (zAe (l':=[(6,.sl .i ([] : List Int)),(7,.sl .i ([] : List Int)),(8,.sl .i ([] : List Int)),(9,.i x3)]) (Hs:=[(0,.tr E76 (some p0_0))]) (n:=1) (Wk.trans (zAT (i:=0) (T:=76) (e:=F76) (js:=[1,2]) p0_0 rfl (⟨[.sl Y2 p0_0.1],[.map 1,.map 2,.i p0_0.2.2.2.1,.i p0_0.2.2.2.2],[],[1,2],rfl,rfl,⟨rfl,rfl,rfl⟩,⟨[.map 1],[.map 2,.i p0_0.2.2.2.1,.i p0_0.2.2.2.2],[1],[2],rfl,rfl,⟨1,rfl,rfl,rfl⟩,⟨[.map 2],[.i p0_0.2.2.2.1,.i p0_0.2.2.2.2],[2],[],rfl,rfl,⟨2,rfl,rfl,rfl⟩,⟨[.i p0_0.2.2.2.1],[.i p0_0.2.2.2.2],[],[],rfl,rfl,⟨rfl,rfl,rfl⟩,⟨rfl,rfl,rfl⟩⟩⟩⟩⟩) rfl) (zAA hX [0] 4 rfl rfl ⟨⟨_,rfl,cv2⟩,⟨_,rfl,cv2⟩,⟨_,rfl,cv2⟩,⟨_,rfl,cv0⟩,trivial⟩ wO)) rfl rfl rfl ⟨rfl,rfl,rfl,rfl,trivial⟩)
  ·obtain ⟨x6,e7,hr⟩:=zA hr
   refine sk<|an<|sq<|rg<|V vm<|V vm<|V vm<|?_
   refine zAK (zAp (as':=[.ptr 0 0,.i p1,.i p2]) (f51_runs e7).x ent51 rfl ⟨cv0,cv0,cv0,trivial⟩ rfl rfl rfl ?_)
   obtain ⟨x8,e9,hr⟩:=zA hr
   obtain ⟨x10,e11,hr⟩:=zA hr
   obtain ⟨x12,e13,hr⟩:=zA hr
   refine O oa<|O os<|nl<|an<|sq<|?_
   refine zBE mixed [11] [(true,.ptr 6 0),(true,.map 3),(true,.sl .i x8),(true,.ptr 6 1),(true,.map 4),(true,.sl .i x10),(true,.ptr 6 2),(true,.map 5),(true,.sl .i x12),(true,.sl .i x8),(true,.sl .i x10),(true,.sl .i x12),(true,.i 0)] [[],[0],[1],[],[3],[4],[],[6],[7],[2],[5],[8],[]] [9,10,11,12] rfl rfl rfl rfl rfl ⟨?_,?_,?_,?_,?_,?_,?_,?_,?_,?_,?_,?_,?_,trivial⟩ (zAD ⟨rfl,rfl,rfl,rfl,trivial⟩) ?_
   ·exact oB wfp
   ·exact oB wlp
   ·exact zAr rfl (fun hg=>zAD ⟨rfl,trivial⟩) (fun hg=>zBD (as':=[.map 3]) (Hs:=[.sl 3 .i x8]) (zCU e9).x ent52 rfl ⟨cv0,trivial⟩ rfl rfl rfl)
   ·exact oB wfp
   ·exact oB wlp
   ·exact zAr rfl (fun hg=>zAD ⟨rfl,trivial⟩) (fun hg=>zBD (as':=[.map 4]) (Hs:=[.sl 3 .i x10]) (zCU e11).x ent52 rfl ⟨cv0,trivial⟩ rfl rfl rfl)
   ·exact oB wfp
   ·exact oB wlp
   ·exact zAr rfl (fun hg=>zAD ⟨rfl,trivial⟩) (fun hg=>zBD (as':=[.map 5]) (Hs:=[.sl 3 .i x12]) (zCU e13).x ent52 rfl ⟨cv0,trivial⟩ rfl rfl rfl)
   ·exact oB wa
   ·exact oB wa
   ·exact oB wa
   ·exact oB wa
   obtain rfl:=Option.some.inj hr
   exact zAZ (zAw (zAe (l':=[(6,.sl .i x8),(7,.sl .i x10),(8,.sl .i x12),(9,.i 0)]) (Hs:=[(0,.tr E76 (some p0_0))]) (n:=1) (Wk.trans (zAT (i:=0) (T:=76) (e:=F76) (js:=[1,2]) p0_0 rfl (⟨[.sl Y2 p0_0.1],[.map 1,.map 2,.i p0_0.2.2.2.1,.i p0_0.2.2.2.2],[],[1,2],rfl,rfl,⟨rfl,rfl,rfl⟩,⟨[.map 1],[.map 2,.i p0_0.2.2.2.1,.i p0_0.2.2.2.2],[1],[2],rfl,rfl,⟨1,rfl,rfl,rfl⟩,⟨[.map 2],[.i p0_0.2.2.2.1,.i p0_0.2.2.2.2],[2],[],rfl,rfl,⟨2,rfl,rfl,rfl⟩,⟨[.i p0_0.2.2.2.1],[.i p0_0.2.2.2.2],[],[],rfl,rfl,⟨rfl,rfl,rfl⟩,⟨rfl,rfl,rfl⟩⟩⟩⟩⟩) rfl) (zAA hX [0] 4 rfl rfl wS wO)) rfl rfl rfl ⟨rfl,rfl,rfl,rfl,trivial⟩))
theorem f117_runs {p0:ZO}{p1:Int}{r:Int}(hr:f117 p0 p1=some r) : zBb Tryz.prog 117 [.agg [.str p0.1,.i p0.2.1,.i p0.2.2.1,.i p0.2.2.2.1,.i p0.2.2.2.2.1,.i p0.2.2.2.2.2],.i p1] [.i r]:=by
 refine zAW Tryz.func117 Tryz.ntmps117 rfl (rs:=[.tmp 4]) rfl rfl fun w0 X hX=>?_
 refine sq<|rg<|O ob<|V va<|nl<|an<|sq<|sq<|rg<|V vm<|nl<|an<|bl<|sq<|rg<|V veq<|V va<|nl<|an<|?_
 refine cnd (fun hc1 hr=>?_) (fun hc1 hr=>?_)
 ·refine sq<|rg<|V vfp<|V vlp<|V va<|?_
  obtain rfl:=Option.some.inj hr
  exact nl<|an<|cr<|zAE (zAC (zAk (l':=[(4,.i p0.2.2.2.1)]) (zAA hX [] 4 rfl rfl wS trivial) rfl ⟨rfl,trivial⟩))
 ·refine sq<|rg<|V veq<|V va<|nl<|an<|?_
  refine cnd (fun hc2 hr=>?_) (fun hc2 hr=>?_)
  ·refine sq<|rg<|V vfp<|V vlp<|V va<|?_
   obtain rfl:=Option.some.inj hr
   exact nl<|an<|cr<|zAE (zAC (zAk (l':=[(4,.i p0.2.2.2.2.1)]) (zAA hX [] 4 rfl rfl wS trivial) rfl ⟨rfl,trivial⟩))
  ·refine sk<|bn<|an<|sq<|rg<|V vfp<|V vlp<|V va<|?_
   obtain rfl:=Option.some.inj hr
   exact nl<|an<|cr<|zAk (l':=[(4,.i p0.2.2.2.2.2)]) (zAA hX [] 4 rfl rfl wS trivial) rfl ⟨rfl,trivial⟩
theorem f90_runs {p0:ZR}{p1:Int}{p2:Int}{r:List Int×List Int×List Int}(hr:f90 p0 p1 p2=some r) : Runs Tryz.prog 90 [.rp (R80 p0),.i p1,.i p2] [] (fun q Hq=>q=[.osl 0,.osl 1,.osl 2]∧Hq=[.sl 3 .i r.1,.sl 3 .i r.2.1,.sl 3 .i r.2.2]):=by
 refine zAW Tryz.func90 Tryz.ntmps90 rfl (rs:=[.tmp 6,.tmp 7,.tmp 8]) rfl rfl fun w0 X hX=>?_
 refine sq<|rg<|V va<|V va<|V va<|nl<|an<|sq<|rg<|V vm<|?_
 refine zAK (zBq (t:=.i) (qs:=[(0,[.i p1])]) (ys:=[p1]) bs33 rfl rfl rfl rfl rfl rfl rfl rfl ?_)
 obtain ⟨o13,e14,hr⟩:=zA hr
 refine V va<|nl<|an<|sq<|rg<|V va<|nl<|an<|sq<|sq<|rg<|V va<|nl<|an<|bl<|?_
 refine awc_loop (S:=Bool×List Int×List Int) (R:=List Int×List Int) (fun p=>match p with | (s4,s5,s6)=>(⟨[(0,.rp (R80 p0)),(2,.i p2),(6,.nils),(7,.nils),(8,.nils),(9,.osl 0),(10,.osl 1),(11,.bool s4)],[(0,.sl 3 .i s5),(1,.sl 3 .i s6)],2⟩ : AS)) (f90_b0 p0 p2) (fun r e st=>match r with | (s11,s12)=>e=.exit 0∧Wk X st ⟨[(0,.rp (R80 p0)),(6,.nils),(7,.nils),(8,.nils),(9,.osl 0),(10,.osl 1)],[(0,.sl 3 .i s11),(1,.sl 3 .i s12)],2⟩) e14 (Wk.trans (zAt (t:=10) 3 .i rfl) (by exact zAA hX [0,1] 4 rfl rfl wS wO)) ?_ ?_
 ·intro e st hx
  obtain ⟨s11,s12⟩:=o13
  obtain ⟨rfl,hw⟩:=hx
  obtain ⟨o22,e23,hr⟩:=zA hr
  refine bh<|an<|(zAY hw)<|sq<|sq<|rg<|V vm<|V vnr<|V vfr<|V vlr<|V vnl<|V vm<|nl<|an<|bl<|?_
  refine zAb (t:=104) rfl (fun hl=>?_)
  refine zAI (List.length p0.2.1 : Int) (f90_b1 p0 s11 s12) (fun p=>match p with | (i15,s17,s18)=>(⟨[(0,.rp (R80 p0)),(6,.osl 0),(7,.nils),(8,.osl 1),(9,.osl 2),(10,.osl 3),(104,.sl Y4 p0.2.1),(105,.i (List.length p0.2.1 : Int)),(106,.i i15)],[(0,.sl 3 .i s17),(1,.sl 3 .i s18),(2,.sl 3 .i s11),(3,.sl 3 .i s12)],4⟩ : AS)) (fun o e st=>match o with | .inr _=>False | .inl (s17,s18)=>e=.exit 8∧Wk X st ⟨[(0,.rp (R80 p0)),(6,.osl 0),(7,.nils),(8,.osl 1),(10,.osl 2)],[(0,.sl 3 .i s17),(1,.sl 3 .i s18),(2,.sl 3 .i s12)],3⟩) (zAf hl) e23 (Wk.trans (zAt (t:=6) 3 .i rfl) (Wk.trans (zAt (t:=8) 3 .i rfl) (by exact zAA hX [2,3,0,1] 4 rfl rfl wS wO))) ?_ ?_
  ·intro e st hx
   rcases o22 with ⟨s17,s18⟩ | _
   ·obtain ⟨rfl,hw⟩:=hx
    obtain ⟨o29,e30,hr⟩:=zA hr
    refine bh<|an<|(zAY hw)<|sq<|sq<|rg<|V vm<|V vnr<|V vfr<|V vlr<|V vnl<|V vm<|nl<|an<|bl<|?_
    refine zAb (t:=149) rfl (fun hl=>?_)
    refine zAI (List.length p0.2.2.1 : Int) (f90_b2 p0 s12) (fun p=>match p with | (i24,s26)=>(⟨[(6,.osl 0),(7,.osl 1),(8,.osl 2),(10,.osl 3),(149,.sl Y5 p0.2.2.1),(150,.i (List.length p0.2.2.1 : Int)),(151,.i i24)],[(0,.sl 3 .i s17),(1,.sl 3 .i s26),(2,.sl 3 .i s18),(3,.sl 3 .i s12)],4⟩ : AS)) (fun o e st=>match o with | .inr _=>False | .inl s26=>e=.exit 12∧Wk X st ⟨[(6,.osl 0),(7,.osl 1),(8,.osl 2)],[(0,.sl 3 .i s17),(1,.sl 3 .i s26),(2,.sl 3 .i s18)],3⟩) (zAf hl) e30 (Wk.trans (zAt (t:=7) 3 .i rfl) (by exact zAA hX [0,3,1,2] 4 rfl rfl wS wO)) ?_ ?_
    ·intro e st hx
     rcases o29 with s26 | _
     ·obtain ⟨rfl,hw⟩:=hx
      refine bh<|an<|(zAY hw)<|sq<|rg<|V vm<|V vm<|V vm<|V va<|V va<|V va<|?_
      obtain rfl:=Option.some.inj hr
      exact nl<|an<|cr<|zAe (l':=[(6,.osl 0),(7,.osl 1),(8,.osl 2)]) (Hs:=[(0,.sl 3 .i s17),(1,.sl 3 .i s26),(2,.sl 3 .i s18)]) (n:=3) (zAA hX [0,1,2] 4 rfl rfl wS wO) rfl rfl rfl ⟨rfl,rfl,rfl,trivial⟩
     ·exact hx.elim
    ·rintro i24 s26 o ho
     refine sq<|rg<|V vls<|nl<|an<|sq<|?_
     refine zAO (b:=decide (i24 < (List.length p0.2.2.1 : Int))) rfl (fun hc31=>?_) (fun hc31=>?_)
     ·obtain ⟨q,hr,rfl⟩:=zA7 hc31 ho
      obtain ⟨o33,e34,hr⟩:=zA hr
      refine sk<|an<|?_
      refine zAy (S:=List Int) (R:=Unit) (fun s=>match s with | s32=>(⟨[(6,.osl 0),(7,.osl 1),(8,.osl 2),(10,.osl 3),(149,.sl Y5 p0.2.2.1),(150,.i (List.length p0.2.2.1 : Int)),(151,.i i24)],[(0,.sl 3 .i s17),(1,.sl 3 .i s32),(2,.sl 3 .i s18),(3,.sl 3 .i s12)],4⟩ : AS)) (fun _ _ _=>False) e34 (fun hr=>?_) ?_ ?_
      ·obtain ⟨x35,e36,hr⟩:=zA hr
       obtain ⟨x37,e38,hr⟩:=zA hr
       refine bl<|sq<|rg<|V (zAQ (t:=Y5) (e:=x35) (undX 78 rfl) (szX 42 rfl) rfl rfl e36)<|V vlR<|O oa<|O os<|nl<|an<|sq<|rg<|V vm<|V vfp<|V vlp<|?_
       refine V (zAj (as':=[.osl 3,.i x35.1]) (zBY e38).x zB9 rfl ⟨cv0,cv0,trivial⟩ rfl rfl)<|nl<|an<|?_
       refine cnd (fun hc39 hr=>?_) (fun hc39 hr=>?_)
       ·refine rg<|V vm<|V vfp<|V vlp<|?_
        refine V (zAM (t:=.i) (qs:=[(0,[.i x35.1])]) (ys:=[x35.1]) bs33 rfl rfl rfl rfl rfl rfl rfl rfl)<|?_
        obtain ⟨h40,hr⟩:=zAN hr
        refine zAK (zAh rfl rfl zCt rfl rfl rfl h40 rfl ?_)
        refine V va<|?_
        obtain rfl:=Option.some.inj hr
        exact zAJ (zAS ((zAA hX [0,5,2,3] 4 rfl rfl wS wO)))
       ·obtain rfl:=Option.some.inj hr
        exact zAv (zAS ((zAA hX [0,1,2,3] 4 rfl rfl wS wO)))
      ·rintro s32 rfl
       refine rg<|V vad<|V vm<|?_
       obtain rfl:=Option.some.inj hr
       exact zAJ ((zAA hX [0,1,2,3] 4 rfl rfl wS wO))
      ·exact fun r h e st hne hx=>hx.elim
     ·obtain rfl:=zA8 hc31 ho
      exact zAH (zAF (⟨rfl,(zAA hX [0,1,2] 4 rfl rfl wS wO)⟩))
   ·exact hx.elim
  ·rintro i15 ⟨s17,s18⟩ o ho
   refine sq<|rg<|V vls<|nl<|an<|sq<|?_
   refine zAO (b:=decide (i15 < (List.length p0.2.1 : Int))) rfl (fun hc41=>?_) (fun hc41=>?_)
   ·obtain ⟨q,hr,rfl⟩:=zA7 hc41 ho
    obtain ⟨o44,e45,hr⟩:=zA hr
    refine sk<|an<|?_
    refine zAy (S:=List Int×List Int) (R:=Unit) (fun s=>match s with | (s42,s43)=>(⟨[(0,.rp (R80 p0)),(6,.osl 0),(7,.nils),(8,.osl 1),(9,.osl 2),(10,.osl 3),(104,.sl Y4 p0.2.1),(105,.i (List.length p0.2.1 : Int)),(106,.i i15)],[(0,.sl 3 .i s42),(1,.sl 3 .i s43),(2,.sl 3 .i s11),(3,.sl 3 .i s12)],4⟩ : AS)) (fun _ _ _=>False) e45 (fun hr=>?_) ?_ ?_
    ·obtain ⟨x46,e47,hr⟩:=zA hr
     obtain ⟨x48,e49,hr⟩:=zA hr
     refine bl<|sq<|rg<|V (zAQ (t:=Y4) (e:=x46) (undX 52 rfl) (szX 54 rfl) rfl rfl e47)<|V vlR<|O oa<|O os<|nl<|an<|sq<|sq<|rg<|V vm<|V vfp<|V vlp<|?_
     refine V (zAj (as':=[.osl 2,.i x46.1]) (zBY e49).x zB9 rfl ⟨cv0,cv0,trivial⟩ rfl rfl)<|nl<|an<|?_
     refine cnd (fun hc50 hr=>?_) (fun hc50 hr=>?_)
     ·refine sq<|rg<|V vm<|V vfp<|V vlp<|?_
      refine V (zAM (t:=.i) (qs:=[(0,[.i x46.1])]) (ys:=[x46.1]) bs33 rfl rfl rfl rfl rfl rfl rfl rfl)<|?_
      obtain ⟨h51,hr⟩:=zAN hr
      refine zAK (zAh rfl rfl zCt rfl rfl rfl h51 rfl ?_)
      refine V va<|?_
      obtain rfl:=Option.some.inj hr
      exact zAJ (zAZ (zAH (zAF (zAl ((zAA hX [5,1,2,3] 4 rfl rfl wS wO))))))
     ·obtain ⟨o54,e55,hr⟩:=zA hr
      refine sk<|an<|sq<|rg<|V vm<|V vnr<|V vfr<|V vlr<|V vnl<|V vm<|nl<|an<|bl<|?_
      refine zAb (t:=122) rfl (fun hl=>?_)
      refine zAI (List.length p0.2.2.1 : Int) (f90_b3 p0 s12 s18 x46) (fun p=>match p with | (i52,())=>(⟨[(0,.rp (R80 p0)),(6,.osl 0),(7,.nils),(8,.osl 1),(9,.osl 2),(10,.osl 3),(22,.ptr 4 0),(104,.sl Y4 p0.2.1),(105,.i (List.length p0.2.1 : Int)),(106,.i i15),(122,.sl Y5 p0.2.2.1),(123,.i (List.length p0.2.2.1 : Int)),(124,.i i52)],[(0,.sl 3 .i s17),(1,.sl 3 .i s18),(2,.sl 3 .i s11),(3,.sl 3 .i s12),(4,.var 54 [.i x46.1,.i x46.2.1,.str x46.2.2])],5⟩ : AS)) (fun o e st=>match o with | .inl ()=>e=.exit 10∧Wk X st ⟨[(0,.rp (R80 p0)),(6,.osl 0),(7,.nils),(8,.osl 1),(9,.osl 2),(10,.osl 3),(104,.sl Y4 p0.2.1),(105,.i (List.length p0.2.1 : Int)),(106,.i i15)],[(0,.sl 3 .i s17),(1,.sl 3 .i s18),(2,.sl 3 .i s11),(3,.sl 3 .i s12)],4⟩ | .inr ()=>e=.exit 10∧Wk X st ⟨[(0,.rp (R80 p0)),(6,.osl 0),(7,.nils),(8,.osl 1),(9,.osl 2),(10,.osl 3),(104,.sl Y4 p0.2.1),(105,.i (List.length p0.2.1 : Int)),(106,.i i15)],[(0,.sl 3 .i s17),(1,.sl 3 .i (s18++[x46.1])),(2,.sl 3 .i s11),(3,.sl 3 .i s12)],4⟩) (zAf hl) e55 (by exact zAA hX [0,1,2,3,4] 4 rfl rfl wS wO) ?_ ?_
      ·intro e st hx
       rcases o54 with _ | _
       ·obtain ⟨rfl,hw⟩:=hx
        obtain rfl:=Option.some.inj hr
        exact zAl (zAS ((Wk.trans hw (zAA hX [0,1,2,3] 4 rfl rfl wS wO))))
       ·obtain ⟨rfl,hw⟩:=hx
        obtain rfl:=Option.some.inj hr
        exact zAl (zAS ((Wk.trans hw (zAA hX [0,1,2,3] 4 rfl rfl wS wO))))
      ·rintro i52 _ o ho
       refine sq<|rg<|V vls<|nl<|an<|sq<|?_
       refine zAO (b:=decide (i52 < (List.length p0.2.2.1 : Int))) rfl (fun hc56=>?_) (fun hc56=>?_)
       ·obtain ⟨q,hr,rfl⟩:=zA7 hc56 ho
        obtain ⟨x57,e58,hr⟩:=zA hr
        obtain ⟨x59,e60,hr⟩:=zA hr
        refine sk<|an<|sq<|bl<|sq<|rg<|V (zAQ (t:=Y5) (e:=x57) (undX 78 rfl) (szX 42 rfl) rfl rfl e58)<|V vlR<|O oa<|O os<|nl<|an<|sq<|?_
        obtain ⟨h61,hr⟩:=zAN hr
        refine zAa [0,6,7,8,9,10,22,104,105,106,122,123,124,24] [(true,.osl 3),(true,.ptr 5 0),(true,.i x57.1),(true,.bool x59),(true,.bool x59),(x59,.ptr 5 2),(x59,.sl .i x57.2.2),(x59,.ptr 4 0),(x59,.i x46.1),(x59,.bool ((f15 x57.2.2 x46.1).getD default)),(true,.bool (x59&&((f15 x57.2.2 x46.1).getD default)))] [[],[],[1],[0,2],[3],[4],[5,4],[4],[7,4],[6,8,4],[9,4]] [10] rfl rfl rfl rfl rfl ⟨?_,?_,?_,?_,?_,?_,?_,?_,?_,?_,?_,trivial⟩ (zAD ⟨rfl,trivial⟩) ?_
        ·exact oB wm
        ·exact oB wfp
        ·exact oB wlp
        ·exact zAr rfl (fun hg=>zAD ⟨rfl,rfl,trivial⟩) (fun hg=>zAj (as':=[.osl 3,.i x57.1]) (zBY e60).x zB9 rfl ⟨cv0,cv0,trivial⟩ rfl rfl)
        ·exact oB wm
        ·exact oB wfp
        ·exact oB wlp
        ·exact oB wfp
        ·exact oB wlp
        ·exact zAr ⟨rfl,rfl,rfl,_,rfl,rfl⟩ (fun hg=>zAD ⟨hg,hg,rfl,trivial⟩) (fun hg=>zAV (zBY (zAz h61 hg)).x zB9 rfl rfl)
        ·exact zBe
        refine an<|?_
        refine cnd (fun hc62 hr=>?_) (fun hc62 hr=>?_)
        ·refine sq<|rg<|V vm<|V vfp<|V vlp<|?_
         refine V (zAM (t:=.i) (qs:=[(0,[.i x46.1])]) (ys:=[x46.1]) bs33 rfl rfl rfl rfl rfl rfl rfl rfl)<|?_
         obtain ⟨h63,hr⟩:=zAN hr
         refine zAK (zAh rfl rfl zCt rfl rfl rfl h63 rfl ?_)
         refine V va<|?_
         obtain rfl:=Option.some.inj hr
         exact zAJ (zAZ (zAH ((zBF rfl) (zAF (⟨rfl,(zAA hX [0,6,2,3] 4 rfl rfl wS wO)⟩)))))
        ·refine sk<|bn<|an<|rg<|V vad<|V vm<|?_
         obtain rfl:=Option.some.inj hr
         exact zAJ ((zAA hX [0,1,2,3,4] 4 rfl rfl wS wO))
       ·obtain rfl:=zA8 hc56 ho
        exact zAH (zAF (⟨rfl,(zAA hX [0,1,2,3] 4 rfl rfl wS wO)⟩))
    ·rintro ⟨s42,s43⟩ rfl
     refine rg<|V vad<|V vm<|?_
     obtain rfl:=Option.some.inj hr
     exact zAJ ((zAA hX [0,1,2,3] 4 rfl rfl wS wO))
    ·exact fun r h e st hne hx=>hx.elim
   ·obtain rfl:=zA8 hc41 ho
    exact zAH (zAF (⟨rfl,(zAA hX [0,1,3] 4 rfl rfl wS wO)⟩))
 ·rintro ⟨s4,s5,s6⟩ o hr
  refine sq<|sq<|rg<|V vm<|nl<|an<|?_
  refine cnd (fun hc64 hr=>?_) (fun hc64 hr=>?_)
  ·obtain ⟨o74,e75,hr⟩:=zA hr
   refine sk<|an<|bl<|sq<|rg<|V va<|nl<|an<|sq<|rg<|V vm<|V vnr<|V vfr<|V vlr<|V vnl<|V vm<|nl<|an<|bl<|?_
   refine zAb (t:=33) rfl (fun hl=>?_)
   refine zAI (List.length p0.2.2.1 : Int) (f90_b4 p0 p2) (fun p=>match p with | (i65,s66,s68,s69)=>(⟨[(0,.rp (R80 p0)),(2,.i p2),(6,.nils),(7,.nils),(8,.nils),(9,.osl 0),(10,.osl 1),(11,.bool s66),(33,.sl Y5 p0.2.2.1),(34,.i (List.length p0.2.2.1 : Int)),(35,.i i65)],[(0,.sl 3 .i s68),(1,.sl 3 .i s69)],2⟩ : AS)) (fun o e st=>match o with | .inr _=>False | .inl (s66,s68,s69)=>e=.exit 2∧Wk X st ⟨[(0,.rp (R80 p0)),(2,.i p2),(6,.nils),(7,.nils),(8,.nils),(9,.osl 0),(10,.osl 1),(11,.bool s66)],[(0,.sl 3 .i s68),(1,.sl 3 .i s69)],2⟩) (zAf hl) e75 (by exact zAA hX [0,1] 4 rfl rfl wS wO) ?_ ?_
   ·intro e st hx
    rcases o74 with ⟨s66,s68,s69⟩ | _
    ·obtain ⟨rfl,hw⟩:=hx
     obtain rfl:=Option.some.inj hr
     exact zAl (zAS ((Wk.trans hw (zAA hX [0,1] 4 rfl rfl wS wO))))
    ·exact hx.elim
   ·rintro i65 ⟨s66,s68,s69⟩ o ho
    refine sq<|rg<|V vls<|nl<|an<|sq<|?_
    refine zAO (b:=decide (i65 < (List.length p0.2.2.1 : Int))) rfl (fun hc76=>?_) (fun hc76=>?_)
    ·obtain ⟨q,hr,rfl⟩:=zA7 hc76 ho
     obtain ⟨x77,e78,hr⟩:=zA hr
     obtain ⟨x79,e80,hr⟩:=zA hr
     obtain ⟨o90,e91,hr⟩:=zA hr
     refine sk<|an<|sq<|bl<|sq<|rg<|V (zAQ (t:=Y5) (e:=x77) (undX 78 rfl) (szX 42 rfl) rfl rfl e78)<|V vlR<|O oa<|O os<|nl<|an<|sq<|rg<|V vm<|V vfp<|V vlp<|?_
     refine V (zAV (f81_runs e80).x ent81 rfl rfl)<|V vm<|V vx<|V vx<|O oa<|O os<|V va<|nl<|an<|sq<|rg<|V vfp<|V vlp<|V vnl<|V vm<|nl<|an<|bl<|?_
     refine zAb (t:=47) rfl (fun hl=>?_)
     refine zAI (List.length x77.2.2 : Int) (f90_b5 p2 x77 x79) (fun p=>match p with | (i81,s82,s84,s85)=>(⟨[(0,.rp (R80 p0)),(2,.i p2),(6,.nils),(7,.nils),(8,.nils),(9,.osl 0),(10,.osl 1),(11,.bool s82),(13,.ptr 2 0),(14,.ptr 3 0),(33,.sl Y5 p0.2.2.1),(34,.i (List.length p0.2.2.1 : Int)),(35,.i i65),(47,.sl .i x77.2.2),(48,.i (List.length x77.2.2 : Int)),(49,.i i81)],[(0,.sl 3 .i s84),(1,.sl 3 .i s85),(2,.var 42 [.i x77.1,.str x77.2.1,.sl .i x77.2.2]),(3,.var 47 [.str x79.1.1,.sl Y1 x79.1.2])],4⟩ : AS)) (fun o e st=>match o with | .inr _=>False | .inl (s82,s84,s85)=>e=.exit 4∧Wk X st ⟨[(0,.rp (R80 p0)),(2,.i p2),(6,.nils),(7,.nils),(8,.nils),(9,.osl 0),(10,.osl 1),(11,.bool s82),(33,.sl Y5 p0.2.2.1),(34,.i (List.length p0.2.2.1 : Int)),(35,.i i65)],[(0,.sl 3 .i s84),(1,.sl 3 .i s85)],2⟩) (zAf hl) e91 (by exact zAA hX [0,1,2,3] 4 rfl rfl wS wO) ?_ ?_
     ·intro e st hx
      rcases o90 with ⟨s82,s84,s85⟩ | _
      ·obtain ⟨rfl,hw⟩:=hx
       refine bh<|bn<|an<|(zAY hw)<|rg<|V vad<|V vm<|?_
       obtain rfl:=Option.some.inj hr
       exact zAJ ((zAA hX [0,1] 4 rfl rfl wS wO))
      ·exact hx.elim
     ·rintro i81 ⟨s82,s84,s85⟩ o ho
      refine sq<|rg<|V vls<|nl<|an<|sq<|?_
      refine zAO (b:=decide (i81 < (List.length x77.2.2 : Int))) rfl (fun hc92=>?_) (fun hc92=>?_)
      ·obtain ⟨q,hr,rfl⟩:=zA7 hc92 ho
       obtain ⟨o96,e97,hr⟩:=zA hr
       refine sk<|an<|?_
       refine zAy (S:=Bool×List Int×List Int) (R:=Unit) (fun s=>match s with | (s93,s94,s95)=>(⟨[(0,.rp (R80 p0)),(2,.i p2),(6,.nils),(7,.nils),(8,.nils),(9,.osl 0),(10,.osl 1),(11,.bool s93),(13,.ptr 2 0),(14,.ptr 3 0),(33,.sl Y5 p0.2.2.1),(34,.i (List.length p0.2.2.1 : Int)),(35,.i i65),(47,.sl .i x77.2.2),(48,.i (List.length x77.2.2 : Int)),(49,.i i81)],[(0,.sl 3 .i s94),(1,.sl 3 .i s95),(2,.var 42 [.i x77.1,.str x77.2.1,.sl .i x77.2.2]),(3,.var 47 [.str x79.1.1,.sl Y1 x79.1.2])],4⟩ : AS)) (fun _ _ _=>False) e97 (fun hr=>?_) ?_ ?_
       ·obtain ⟨x98,e99,hr⟩:=zA hr
        obtain ⟨x100,e101,hr⟩:=zA hr
        obtain ⟨x102,e103,hr⟩:=zA hr
        obtain ⟨x104,e105,hr⟩:=zA hr
        refine bl<|sq<|rg<|V vm<|?_
        refine V (zAQ (t:=.i) (e:=x98) (undX 33 rfl) (szX 3 rfl) rfl rfl e99)<|V vlr<|V va<|V va<|nl<|an<|sq<|rg<|V vfp<|V vlp<|V vm<|?_
        refine V (zAQ (t:=Y1) (e:=x100) (undX 45 rfl) (szX 49 rfl) rfl rfl e101)<|V vlR<|V vm<|?_
        refine V (zAV (f117_runs e103).x ent117 rfl rfl)<|V va<|nl<|an<|sq<|sq<|?_
        refine zAa [0,2,6,7,8,9,10,11,13,14,33,34,35,47,48,49,17,18] [(true,.osl 0),(true,.i x98),(true,.bool x104),(true,.bool (!x104)),(true,.bool (!x104)),(!(!x104),.i x102),(!(!x104),.bool (decide (x102=3))),(true,.bool ((!x104)||(decide (x102=3))))] [[],[],[0,1],[2],[3],[4],[5,4],[6,4]] [7] rfl rfl rfl rfl rfl ⟨?_,?_,?_,?_,?_,?_,?_,?_,trivial⟩ (zAD ⟨rfl,trivial⟩) ?_
        ·exact oB wm
        ·exact oB wm
        ·exact zAr rfl (fun hg=>zAD ⟨rfl,rfl,trivial⟩) (fun hg=>zAj (as':=[.osl 0,.i x98]) (zBY e105).x zB9 rfl ⟨cv0,cv0,trivial⟩ rfl rfl)
        ·exact oB wno
        ·exact oB wm
        ·exact oB wm
        ·exact oB weq
        ·exact zBr
        refine an<|?_
        refine cnd (fun hc106 hr=>?_) (fun hc106 hr=>?_)
        ·obtain rfl:=Option.some.inj hr
         exact zAH (zAF (zAl ((zAA hX [0,1,2,3] 4 rfl rfl wS wO))))
        ·obtain ⟨o109,e110,hr⟩:=zA hr
         refine sk<|an<|?_
         refine zAy (S:=Bool×List Int) (R:=Unit) (fun s=>match s with | (s107,s108)=>(⟨[(0,.rp (R80 p0)),(2,.i p2),(6,.nils),(7,.nils),(8,.nils),(9,.osl 0),(10,.osl 1),(11,.bool s107),(13,.ptr 2 0),(14,.ptr 3 0),(18,.i x102),(33,.sl Y5 p0.2.2.1),(34,.i (List.length p0.2.2.1 : Int)),(35,.i i65),(47,.sl .i x77.2.2),(48,.i (List.length x77.2.2 : Int)),(49,.i i81)],[(0,.sl 3 .i s84),(1,.sl 3 .i s108),(2,.var 42 [.i x77.1,.str x77.2.1,.sl .i x77.2.2]),(3,.var 47 [.str x79.1.1,.sl Y1 x79.1.2])],4⟩ : AS)) (fun _ _ _=>False) e110 (fun hr=>?_) ?_ ?_
         ·obtain ⟨x111,e112,hr⟩:=zA hr
          refine sq<|rg<|V vm<|V vfp<|V vlp<|?_
          refine V (zAj (as':=[.osl 1,.i x77.1]) (zBY e112).x zB9 rfl ⟨cv0,cv0,trivial⟩ rfl rfl)<|V vno<|nl<|an<|?_
          refine cnd (fun hc113 hr=>?_) (fun hc113 hr=>?_)
          ·refine sq<|rg<|V vm<|V vfp<|V vlp<|?_
           refine V (zAM (t:=.i) (qs:=[(0,[.i x77.1])]) (ys:=[x77.1]) bs33 rfl rfl rfl rfl rfl rfl rfl rfl)<|?_
           obtain ⟨h114,hr⟩:=zAN hr
           refine zAK (zAh rfl rfl zCt rfl rfl rfl h114 rfl ?_)
           refine V va<|nl<|an<|rg<|V va<|?_
           obtain rfl:=Option.some.inj hr
           exact zAJ ((zAA hX [0,4,2,3] 4 rfl rfl wS wO))
          ·obtain rfl:=Option.some.inj hr
           exact zAv ((zAA hX [0,1,2,3] 4 rfl rfl wS wO))
         ·rintro ⟨s107,s108⟩ rfl
          obtain ⟨o122,e123,hr⟩:=zA hr
          refine sq<|rg<|V vfp<|V vlp<|V vnl<|V vm<|nl<|an<|bl<|?_
          refine zAb (t:=47) rfl (fun hl=>?_)
          refine zAI (List.length x77.2.2 : Int) (f90_b6 x77 x102) (fun p=>match p with | (i115,s116,s118)=>(⟨[(0,.rp (R80 p0)),(2,.i p2),(6,.nils),(7,.nils),(8,.nils),(9,.osl 0),(10,.osl 1),(11,.bool s116),(13,.ptr 2 0),(14,.ptr 3 0),(18,.i x102),(33,.sl Y5 p0.2.2.1),(34,.i (List.length p0.2.2.1 : Int)),(35,.i i65),(47,.sl .i x77.2.2),(48,.i (List.length x77.2.2 : Int)),(49,.i i81),(80,.sl .i x77.2.2),(81,.i (List.length x77.2.2 : Int)),(82,.i i115)],[(0,.sl 3 .i s118),(1,.sl 3 .i s108),(2,.var 42 [.i x77.1,.str x77.2.1,.sl .i x77.2.2]),(3,.var 47 [.str x79.1.1,.sl Y1 x79.1.2])],4⟩ : AS)) (fun o e st=>match o with | .inr _=>False | .inl (s116,s118)=>e=.exit 6∧Wk X st ⟨[(0,.rp (R80 p0)),(2,.i p2),(6,.nils),(7,.nils),(8,.nils),(9,.osl 0),(10,.osl 1),(11,.bool s116),(13,.ptr 2 0),(14,.ptr 3 0),(33,.sl Y5 p0.2.2.1),(34,.i (List.length p0.2.2.1 : Int)),(35,.i i65),(47,.sl .i x77.2.2),(48,.i (List.length x77.2.2 : Int)),(49,.i i81)],[(0,.sl 3 .i s118),(1,.sl 3 .i s108),(2,.var 42 [.i x77.1,.str x77.2.1,.sl .i x77.2.2]),(3,.var 47 [.str x79.1.1,.sl Y1 x79.1.2])],4⟩) (zAf hl) e123 (by exact zAA hX [0,1,2,3] 4 rfl rfl wS wO) ?_ ?_
          ·intro e st hx
           rcases o122 with ⟨s116,s118⟩ | _
           ·obtain ⟨rfl,hw⟩:=hx
            obtain rfl:=Option.some.inj hr
            exact zAl (zAS ((Wk.trans hw (zAA hX [0,1,2,3] 4 rfl rfl wS wO))))
           ·exact hx.elim
          ·rintro i115 ⟨s116,s118⟩ o ho
           refine sq<|rg<|V vls<|nl<|an<|sq<|?_
           refine zAO (b:=decide (i115 < (List.length x77.2.2 : Int))) rfl (fun hc124=>?_) (fun hc124=>?_)
           ·obtain ⟨q,hr,rfl⟩:=zA7 hc124 ho
            obtain ⟨o127,e128,hr⟩:=zA hr
            refine sk<|an<|?_
            refine zAy (S:=Bool×List Int) (R:=Unit) (fun s=>match s with | (s125,s126)=>(⟨[(0,.rp (R80 p0)),(2,.i p2),(6,.nils),(7,.nils),(8,.nils),(9,.osl 0),(10,.osl 1),(11,.bool s125),(13,.ptr 2 0),(14,.ptr 3 0),(18,.i x102),(33,.sl Y5 p0.2.2.1),(34,.i (List.length p0.2.2.1 : Int)),(35,.i i65),(47,.sl .i x77.2.2),(48,.i (List.length x77.2.2 : Int)),(49,.i i81),(80,.sl .i x77.2.2),(81,.i (List.length x77.2.2 : Int)),(82,.i i115)],[(0,.sl 3 .i s126),(1,.sl 3 .i s108),(2,.var 42 [.i x77.1,.str x77.2.1,.sl .i x77.2.2]),(3,.var 47 [.str x79.1.1,.sl Y1 x79.1.2])],4⟩ : AS)) (fun _ _ _=>False) e128 (fun hr=>?_) ?_ ?_
            ·obtain ⟨x129,e130,hr⟩:=zA hr
             refine bl<|sq<|rg<|V (zAQ (t:=.i) (e:=x129) (undX 33 rfl) (szX 3 rfl) rfl rfl e130)<|V vlr<|V va<|nl<|an<|sq<|?_
             obtain ⟨h131,hr⟩:=zAN hr
             refine zAa [0,2,6,7,8,9,10,11,13,14,18,33,34,35,47,48,49,80,81,82,20] [(true,.i x102),(true,.bool (decide (x102=1))),(true,.bool (decide (x102=1))),(decide (x102=1),.osl 0),(decide (x102=1),.i x129),(decide (x102=1),.bool ((f15 s118 x129).getD default)),(decide (x102=1),.bool (!((f15 s118 x129).getD default))),(true,.bool ((decide (x102=1))&&(!((f15 s118 x129).getD default))))] [[],[0],[1],[2],[2],[3,4,2],[5,2],[6,2]] [7] rfl rfl rfl rfl rfl ⟨?_,?_,?_,?_,?_,?_,?_,?_,trivial⟩ (zAD ⟨rfl,trivial⟩) ?_
             ·exact oB wm
             ·exact oB weq
             ·exact oB wm
             ·exact oB wm
             ·exact oB wm
             ·exact zAr ⟨rfl,rfl,rfl,_,rfl,rfl⟩ (fun hg=>zAD ⟨hg,hg,rfl,trivial⟩) (fun hg=>zAj (as':=[.osl 0,.i x129]) (zBY (zAz h131 hg)).x zB9 rfl ⟨cv0,cv0,trivial⟩ rfl rfl)
             ·exact oB wno
             ·exact zBe
             refine an<|?_
             refine cnd (fun hc132 hr=>?_) (fun hc132 hr=>?_)
             ·refine sq<|rg<|V vm<|V vm<|?_
              refine V (zAM (t:=.i) (qs:=[(0,[.i x129])]) (ys:=[x129]) bs33 rfl rfl rfl rfl rfl rfl rfl rfl)<|?_
              obtain ⟨h133,hr⟩:=zAN hr
              refine zAK (zAh rfl rfl zCt rfl rfl rfl h133 rfl ?_)
              refine V va<|nl<|an<|rg<|V va<|?_
              obtain rfl:=Option.some.inj hr
              exact zAJ (zAS ((zAA hX [4,1,2,3] 4 rfl rfl wS wO)))
             ·obtain rfl:=Option.some.inj hr
              exact zAv (zAS ((zAA hX [0,1,2,3] 4 rfl rfl wS wO)))
            ·rintro ⟨s125,s126⟩ rfl
             refine rg<|V vad<|V vm<|?_
             obtain rfl:=Option.some.inj hr
             exact zAJ ((zAA hX [0,1,2,3] 4 rfl rfl wS wO))
            ·exact fun r h e st hne hx=>hx.elim
           ·obtain rfl:=zA8 hc124 ho
            exact zAH (zAF (⟨rfl,(zAA hX [0,1,2,3] 4 rfl rfl wS wO)⟩))
         ·exact fun r h e st hne hx=>hx.elim
       ·rintro ⟨s93,s94,s95⟩ rfl
        refine rg<|V vad<|V vm<|?_
        obtain rfl:=Option.some.inj hr
        exact zAJ ((zAA hX [0,1,2,3] 4 rfl rfl wS wO))
       ·exact fun r h e st hne hx=>hx.elim
      ·obtain rfl:=zA8 hc92 ho
       exact zAH (zAF (⟨rfl,(zAA hX [0,1] 4 rfl rfl wS wO)⟩))
    ·obtain rfl:=zA8 hc76 ho
     exact zAH (zAF (⟨rfl,(zAA hX [0,1] 4 rfl rfl wS wO)⟩))
  ·obtain rfl:=Option.some.inj hr
   exact zAH (zAF (⟨rfl,(zAA hX [0,1] 4 rfl rfl wS wO)⟩))
theorem f40_runs {p0:ZR}{p1:Int}{p2:Int}{r:Int×List Int×List Int×List Int}(hr:f40 p0 p1 p2=some r) : Runs Tryz.prog 40 [.rp (R80 p0),.i p1,.i p2] [] (fun q Hq=>q=[.osl 0,.osl 1,.osl 2,.i r.1]∧Hq=[.sl 3 .i r.2.1,.sl 3 .i r.2.2.1,.sl 3 .i r.2.2.2]):=by
 refine zAW Tryz.func40 Tryz.ntmps40 rfl (rs:=[.tmp 6,.tmp 7,.tmp 8,.tmp 9]) rfl rfl fun w0 X hX=>?_
 refine sq<|rg<|V va<|V va<|V va<|V va<|nl<|an<|sq<|sq<|?_
 refine zAa [0,1,2,6,7,8,9] [(true,.i p2),(true,.bool (decide (p2 < 1))),(true,.bool (decide (p2 < 1))),(!(decide (p2 < 1)),.i p2),(!(decide (p2 < 1)),.bool (decide (3 < p2))),(true,.bool ((decide (p2 < 1))||(decide (3 < p2)))),(true,.bool ((decide (p2 < 1))||(decide (3 < p2)))),(!((decide (p2 < 1))||(decide (3 < p2))),.i p1),(!((decide (p2 < 1))||(decide (3 < p2))),.bool (decide (p1 < 0))),(true,.bool (((decide (p2 < 1))||(decide (3 < p2)))||(decide (p1 < 0))))] [[],[0],[1],[2],[3,2],[4,2],[5],[6],[7,6],[8,6]] [9] rfl rfl rfl rfl rfl ⟨?_,?_,?_,?_,?_,?_,?_,?_,?_,?_,trivial⟩ (zAD ⟨rfl,trivial⟩) ?_
 ·exact oB wm
 ·exact oB wls
 ·exact oB wm
 ·exact oB wm
 ·exact oB wgt
 ·exact zBr
 ·exact oB wm
 ·exact oB wm
 ·exact oB wls
 ·exact zBr
 refine an<|?_
 refine cnd (fun hc4 hr=>?_) (fun hc4 hr=>?_)
 ·refine sq<|rg<|V va<|V va<|V va<|V va<|?_
  obtain rfl:=Option.some.inj hr
  exact nl<|an<|cr<|zAC (zAe (l':=[(6,.osl 0),(7,.osl 1),(8,.osl 2),(9,.i 7)]) (Hs:=[(0,.sl 3 .i ([] : List Int)),(1,.sl 3 .i ([] : List Int)),(2,.sl 3 .i ([] : List Int))]) (n:=3) (Wk.trans (zAt (t:=6) 3 .i rfl) (Wk.trans (zAt (t:=7) 3 .i rfl) (Wk.trans (zAt (t:=8) 3 .i rfl) (zAA hX [0,1,2] 4 rfl rfl wS wO)))) rfl rfl rfl ⟨rfl,rfl,rfl,rfl,trivial⟩)
 ·obtain ⟨x5,e6,hr⟩:=zA hr
  refine sk<|an<|sq<|sq<|rg<|V vm<|V vm<|?_
  refine V (zAV (f82_runs e6).x ent82 rfl rfl)<|V vno<|nl<|an<|?_
  refine cnd (fun hc7 hr=>?_) (fun hc7 hr=>?_)
  ·refine sq<|rg<|V va<|V va<|V va<|V va<|?_
   obtain rfl:=Option.some.inj hr
   exact nl<|an<|cr<|zAC (zAe (l':=[(6,.osl 0),(7,.osl 1),(8,.osl 2),(9,.i 8)]) (Hs:=[(0,.sl 3 .i ([] : List Int)),(1,.sl 3 .i ([] : List Int)),(2,.sl 3 .i ([] : List Int))]) (n:=3) (Wk.trans (zAt (t:=6) 3 .i rfl) (Wk.trans (zAt (t:=7) 3 .i rfl) (Wk.trans (zAt (t:=8) 3 .i rfl) (zAA hX [0,1,2] 4 rfl rfl wS wO)))) rfl rfl rfl ⟨rfl,rfl,rfl,rfl,trivial⟩)
  ·obtain ⟨x8,e9,hr⟩:=zA hr
   refine sk<|an<|sq<|rg<|V vm<|V vm<|V vm<|?_
   refine zAK (zAP (σ:=[]) (as':=[.rp (R80 p0),.i p1,.i p2]) (f90_runs e9).x ent90 rfl ⟨cv0,cv0,cv0,trivial⟩ rfl rfl rfl ?_)
   refine V vm<|V vx<|V vx<|V vx<|V va<|V va<|V va<|nl<|an<|sq<|rg<|V vm<|V vm<|V vm<|V va<|V va<|V va<|V va<|?_
   obtain rfl:=Option.some.inj hr
   exact nl<|an<|cr<|zAe (l':=[(6,.osl 0),(7,.osl 1),(8,.osl 2),(9,.i 0)]) (Hs:=[(0,.sl 3 .i x8.1),(1,.sl 3 .i x8.2.1),(2,.sl 3 .i x8.2.2)]) (n:=3) (zAA hX [0,1,2] 4 rfl rfl wS wO) rfl rfl rfl ⟨rfl,rfl,rfl,rfl,trivial⟩
theorem f91_runs {p0:Int}{r:Bool}(hr:f91 p0=some r) : zBb Tryz.prog 91 [.i p0] [.bool r]:=by
 refine zAW Tryz.func91 Tryz.ntmps91 rfl (rs:=[.tmp 2]) rfl rfl fun w0 X hX=>?_
 refine sq<|rg<|V va<|nl<|an<|sq<|?_
 refine zAa [0] [(true,.i p0),(true,.bool (decide (0≤p0))),(true,.bool (decide (0≤p0))),(decide (0≤p0),.i p0),(decide (0≤p0),.bool (decide (p0≤1000))),(true,.bool ((decide (0≤p0))&&(decide (p0≤1000)))),(true,.bool ((decide (0≤p0))&&(decide (p0≤1000))))] [[],[0],[1],[2],[3,2],[4,2],[5]] [6] rfl rfl rfl rfl rfl ⟨?_,?_,?_,?_,?_,?_,?_,trivial⟩ (zAD ⟨rfl,trivial⟩) ?_
 ·exact oB wm
 ·exact oB wge
 ·exact oB wm
 ·exact oB wm
 ·exact oB wle
 ·exact zBe
 ·exact oB wa
 obtain rfl:=Option.some.inj hr
 exact zAZ (zAw (zAk (l':=[(2,.bool ((decide (0≤p0))&&(decide (p0≤1000))))]) (zAA hX [] 4 rfl rfl wS trivial) rfl ⟨rfl,trivial⟩))
theorem f41_runs {p0_0:ZR}{p1:Int}{p2:Int}{r:(List (Int×Int))×(List (Int×Int))×Int×(ZR)}(hr:f41 p0_0 p1 p2=some r) : Runs Tryz.prog 41 [.ptr 0 0,.i p1,.i p2] [.tr E80 (some p0_0)] (fun q Hq=>q=[.sl Y6 r.1,.sl Y6 r.2.1,.i r.2.2.1]∧Hq=[.tr E80 (some r.2.2.2)]):=by
 refine zAW Tryz.func41 Tryz.ntmps41 rfl (rs:=[.tmp 6,.tmp 7,.tmp 8]) rfl rfl fun w0 X hX=>?_
 obtain ⟨x2,e3,hr⟩:=zA hr
 refine sq<|rg<|V va<|V va<|V va<|nl<|an<|sq<|sq<|?_
 refine zAa [0,1,2,6,7,8] [(true,.i p2),(true,.bool x2),(true,.bool (!x2)),(true,.bool (!x2)),(!(!x2),.i p1),(!(!x2),.bool (decide (p1 < 0))),(true,.bool ((!x2)||(decide (p1 < 0))))] [[],[0],[1],[2],[3],[4,3],[5,3]] [6] rfl rfl rfl rfl rfl ⟨?_,?_,?_,?_,?_,?_,?_,trivial⟩ (zAD ⟨rfl,trivial⟩) ?_
 ·exact oB wm
 ·exact zAr rfl (fun hg=>zAD ⟨rfl,trivial⟩) (fun hg=>zAV (f91_runs e3).x ent91 rfl rfl)
 ·exact oB wno
 ·exact oB wm
 ·exact oB wm
 ·exact oB wls
 ·exact zBr
 refine an<|?_
 refine cnd (fun hc4 hr=>?_) (fun hc4 hr=>?_)
 ·refine sq<|rg<|V va<|V va<|V va<|?_
  obtain rfl:=Option.some.inj hr
  exact nl<|an<|cr<|zAC (zAe (l':=[(6,.sl Y6 ([] : List (Int×Int))),(7,.sl Y6 ([] : List (Int×Int))),(8,.i 7)]) (Hs:=[(0,.tr E80 (some p0_0))]) (n:=1) (zAA hX [0] 4 rfl rfl ⟨⟨_,rfl,cv2⟩,⟨_,rfl,cv2⟩,⟨_,rfl,cv0⟩,trivial⟩ wO) rfl rfl rfl ⟨rfl,rfl,rfl,trivial⟩)
 ·obtain ⟨x5,e6,hr⟩:=zA hr
  refine sk<|an<|sq<|sq<|rg<|V vm<|V vm<|?_
  refine zAG (zAd (i:=0) [.sl Y2 p0_0.1,.osl 1,.osl 2,.i p0_0.2.2.2.1,.i p0_0.2.2.2.2] [.sl 54 Y4 p0_0.2.1,.sl 42 Y5 p0_0.2.2.1] rfl rfl rfl rfl)<|V (zAj (as':=[.ptr 0 0,.i p1]) (f82_runs e6).x ent82 rfl ⟨cv0,cv0,trivial⟩ rfl rfl)<|V vno<|nl<|an<|?_
  refine cnd (fun hc7 hr=>?_) (fun hc7 hr=>?_)
  ·refine sq<|rg<|V va<|V va<|V va<|?_
   obtain rfl:=Option.some.inj hr
   exact nl<|an<|cr<|zAC (zAe (l':=[(6,.sl Y6 ([] : List (Int×Int))),(7,.sl Y6 ([] : List (Int×Int))),(8,.i 8)]) (Hs:=[(0,.tr E80 (some p0_0))]) (n:=1) (Wk.trans (zAT (i:=0) (T:=80) (e:=F80) (js:=[1,2]) p0_0 rfl (⟨[.sl Y2 p0_0.1],[.osl 1,.osl 2,.i p0_0.2.2.2.1,.i p0_0.2.2.2.2],[],[1,2],rfl,rfl,⟨rfl,rfl,rfl⟩,⟨[.osl 1],[.osl 2,.i p0_0.2.2.2.1,.i p0_0.2.2.2.2],[1],[2],rfl,rfl,.inl ⟨1,rfl,rfl,rfl⟩,⟨[.osl 2],[.i p0_0.2.2.2.1,.i p0_0.2.2.2.2],[2],[],rfl,rfl,.inl ⟨2,rfl,rfl,rfl⟩,⟨[.i p0_0.2.2.2.1],[.i p0_0.2.2.2.2],[],[],rfl,rfl,⟨rfl,rfl,rfl⟩,⟨rfl,rfl,rfl⟩⟩⟩⟩⟩) rfl) (zAA hX [0] 4 rfl rfl ⟨⟨_,rfl,cv2⟩,⟨_,rfl,cv2⟩,⟨_,rfl,cv0⟩,trivial⟩ wO)) rfl rfl rfl ⟨rfl,rfl,rfl,trivial⟩)
  ·obtain ⟨x8,e9,hr⟩:=zA hr
   refine sk<|an<|sq<|rg<|V vm<|V vm<|?_
   refine zAK (zAp (as':=[.ptr 0 0,.i p1,.i 1]) (f90_runs e9).x ent90 rfl ⟨cv0,cv0,cv0,trivial⟩ rfl rfl rfl ?_)
   obtain ⟨x10,e11,hr⟩:=zA hr
   refine V vm<|V vx<|V vx<|V vx<|V va<|V va<|V va<|nl<|an<|sq<|rg<|V vm<|?_
   refine zAG (zAT (i:=0) (T:=80) (e:=F80) (js:=[1,2]) p0_0 rfl (⟨[.sl Y2 p0_0.1],[.osl 1,.osl 2,.i p0_0.2.2.2.1,.i p0_0.2.2.2.2],[],[1,2],rfl,rfl,⟨rfl,rfl,rfl⟩,⟨[.osl 1],[.osl 2,.i p0_0.2.2.2.1,.i p0_0.2.2.2.2],[1],[2],rfl,rfl,.inl ⟨1,rfl,rfl,rfl⟩,⟨[.osl 2],[.i p0_0.2.2.2.1,.i p0_0.2.2.2.2],[2],[],rfl,rfl,.inl ⟨2,rfl,rfl,rfl⟩,⟨[.i p0_0.2.2.2.1],[.i p0_0.2.2.2.2],[],[],rfl,rfl,⟨rfl,rfl,rfl⟩,⟨rfl,rfl,rfl⟩⟩⟩⟩⟩) rfl)<|?_
   refine zAK (zAP (σ:=[0]) (as':=[.ptr 0 0]) (f83_runs e11).x ent83 rfl ⟨cv0,trivial⟩ rfl rfl rfl ?_)
   obtain ⟨o19,e20,hr⟩:=zA hr
   refine V va<|nl<|an<|sq<|sq<|rg<|V vm<|V vnL<|V vm<|nl<|an<|bl<|?_
   refine zA5 (i:=3) rfl rfl (fun hl=>?_)
   refine zAI (List.length x8.1 : Int) (f41_b0 p0_0 p2 x8) (fun p=>match p with | (i12,s14,s15)=>(⟨[(0,.ptr 0 0),(2,.i p2),(6,.osl 1),(7,.nils),(8,.i 0),(10,.osl 2),(12,.ptr 3 0),(46,.osl 4),(47,.i (List.length x8.1 : Int)),(48,.i i12)],[(0,.tr E80 (some p0_0)),(1,.sl 60 Y6 s14),(2,.sl 3 .i x8.2.1),(3,.tr E80 (some s15)),(4,.sl 3 .i x8.1)],5⟩ : AS)) (fun o e st=>match o with | .inr _=>False | .inl (s14,s15)=>e=.exit 0∧Wk X st ⟨[(0,.ptr 0 0),(6,.osl 1),(7,.nils),(8,.i 0),(10,.osl 2),(12,.ptr 3 0)],[(0,.tr E80 (some p0_0)),(1,.sl 60 Y6 s14),(2,.sl 3 .i x8.2.1),(3,.tr E80 (some s15))],4⟩) (zAf hl) e20 (Wk.trans (zAt (t:=6) 60 Y6 rfl) (by exact zAA hX [0,7,4,6,3] 4 rfl rfl wS wO)) ?_ ?_
   ·intro e st hx
    rcases o19 with ⟨s14,s15⟩ | _
    ·obtain ⟨rfl,hw⟩:=hx
     obtain ⟨o28,e29,hr⟩:=zA hr
     refine bh<|an<|(zAY hw)<|sq<|sq<|rg<|V vm<|V vnL<|V vm<|nl<|an<|bl<|?_
     refine zA5 (i:=2) rfl rfl (fun hl=>?_)
     refine zAI (List.length x8.2.1 : Int) (f41_b1 p0_0 x8 s14) (fun p=>match p with | (i21,s23,s24)=>(⟨[(0,.ptr 0 0),(6,.osl 1),(7,.osl 2),(8,.i 0),(12,.ptr 3 0),(92,.osl 4),(93,.i (List.length x8.2.1 : Int)),(94,.i i21)],[(0,.tr E80 (some p0_0)),(1,.sl 60 Y6 s14),(2,.sl 60 Y6 s23),(3,.tr E80 (some s24)),(4,.sl 3 .i x8.2.1)],5⟩ : AS)) (fun o e st=>match o with | .inr _=>False | .inl (s23,s24)=>e=.exit 2∧Wk X st ⟨[(0,.ptr 0 0),(6,.osl 1),(7,.osl 2),(8,.i 0),(12,.ptr 3 0)],[(0,.tr E80 (some p0_0)),(1,.sl 60 Y6 s14),(2,.sl 60 Y6 s23),(3,.tr E80 (some s24))],4⟩) (zAf hl) e29 (Wk.trans (zAt (t:=7) 60 Y6 rfl) (by exact zAA hX [0,1,4,3,2] 4 rfl rfl wS wO)) ?_ ?_
     ·intro e st hx
      rcases o28 with ⟨s23,s24⟩ | _
      ·obtain ⟨rfl,hw⟩:=hx
       obtain ⟨x30,e31,hr⟩:=zA hr
       refine bh<|an<|(zAY hw)<|sq<|bl<|sq<|rg<|V vm<|?_
       refine zAG (zAd (i:=3) [.sl Y2 s24.1,.osl 4,.osl 5,.i s24.2.2.2.1,.i s24.2.2.2.2] [.sl 54 Y4 s24.2.1,.sl 42 Y5 s24.2.2.1] rfl rfl rfl rfl)<|V (zAj (as':=[.ptr 3 0]) (f85_runs e31).x ent85 rfl ⟨cv0,trivial⟩ rfl rfl)<|V va<|nl<|an<|?_
       refine cnd (fun hc32 hr=>?_) (fun hc32 hr=>?_)
       ·refine sq<|rg<|V va<|V va<|V va<|?_
        obtain rfl:=Option.some.inj hr
        exact nl<|an<|cr<|zAE (zAC (zAe (l':=[(6,.sl Y6 ([] : List (Int×Int))),(7,.sl Y6 ([] : List (Int×Int))),(8,.i 9)]) (Hs:=[(0,.tr E80 (some p0_0))]) (n:=1) (zAA hX [0] 4 rfl rfl ⟨⟨_,rfl,cv2⟩,⟨_,rfl,cv2⟩,⟨_,rfl,cv0⟩,trivial⟩ wO) rfl rfl rfl ⟨rfl,rfl,rfl,trivial⟩))
       ·refine sq<|?_
        refine zAa [0,6,7,8,12] [(true,.ptr 3 0),(true,.ptr 3 0),(true,.ptr 3 1),(true,.osl 4),(true,.i (List.length s24.2.1 : Int)),(true,.bool (decide (500 < (List.length s24.2.1 : Int)))),(true,.bool (decide (500 < (List.length s24.2.1 : Int)))),(!(decide (500 < (List.length s24.2.1 : Int))),.ptr 3 0),(!(decide (500 < (List.length s24.2.1 : Int))),.ptr 3 0),(!(decide (500 < (List.length s24.2.1 : Int))),.ptr 3 2),(!(decide (500 < (List.length s24.2.1 : Int))),.osl 5),(!(decide (500 < (List.length s24.2.1 : Int))),.i (List.length s24.2.2.1 : Int)),(!(decide (500 < (List.length s24.2.1 : Int))),.bool (decide (1000 < (List.length s24.2.2.1 : Int)))),(true,.bool ((decide (500 < (List.length s24.2.1 : Int)))||(decide (1000 < (List.length s24.2.2.1 : Int))))),(true,.bool ((decide (500 < (List.length s24.2.1 : Int)))||(decide (1000 < (List.length s24.2.2.1 : Int)))))] [[],[0],[1],[2],[3],[4],[5],[6],[7,6],[8,6],[9,6],[10,6],[11,6],[12,6],[13]] [14] rfl rfl rfl rfl rfl ⟨?_,?_,?_,?_,?_,?_,?_,?_,?_,?_,?_,?_,?_,?_,?_,trivial⟩ (zAD ⟨rfl,trivial⟩) ?_
        ·exact oB wm
        ·exact oB wnp
        ·exact oB wfp
        ·exact oB wlp
        ·exact zAr rfl (fun hg=>zAD ⟨rfl,trivial⟩) (fun hg=>av_len_osl (t:=Y4) rfl rfl (undX 52 rfl) rfl rfl)
        ·exact oB wgt
        ·exact oB wm
        ·exact oB wm
        ·exact oB wnp
        ·exact oB wfp
        ·exact oB wlp
        ·exact zAr ⟨rfl,rfl,rfl,_,rfl,rfl⟩ (fun hg=>zAD ⟨hg,rfl,trivial⟩) (fun hg=>av_len_osl (t:=Y5) rfl rfl (undX 78 rfl) rfl rfl)
        ·exact oB wgt
        ·exact zBr
        ·exact oB wa
        refine an<|?_
        refine cnd (fun hc33 hr=>?_) (fun hc33 hr=>?_)
        ·refine sq<|rg<|V va<|V va<|V va<|?_
         obtain rfl:=Option.some.inj hr
         exact nl<|an<|cr<|zAE (zAC (zAe (l':=[(6,.sl Y6 ([] : List (Int×Int))),(7,.sl Y6 ([] : List (Int×Int))),(8,.i 4)]) (Hs:=[(0,.tr E80 (some p0_0))]) (n:=1) (zAA hX [0] 4 rfl rfl ⟨⟨_,rfl,cv2⟩,⟨_,rfl,cv2⟩,⟨_,rfl,cv0⟩,trivial⟩ wO) rfl rfl rfl ⟨rfl,rfl,rfl,trivial⟩))
        ·refine sk<|bn<|an<|sq<|rg<|V vm<|V vm<|V vnp<|V vlP<|V vnp<|?_
         refine zAG (zAd (i:=0) [.sl Y2 p0_0.1,.osl 6,.osl 7,.i p0_0.2.2.2.1,.i p0_0.2.2.2.2] [.sl 54 Y4 p0_0.2.1,.sl 42 Y5 p0_0.2.2.1] rfl rfl rfl rfl)<|O os<|nl<|an<|sq<|rg<|V vm<|V vm<|V va<|V va<|V va<|?_
         obtain rfl:=Option.some.inj hr
         exact nl<|an<|cr<|zAe (l':=[(6,.sl Y6 s14),(7,.sl Y6 s23),(8,.i 0)]) (Hs:=[(0,.tr E80 (some s24))]) (n:=1) (Wk.trans (zAT (i:=0) (T:=80) (e:=F80) (js:=[4,5]) s24 rfl (⟨[.sl Y2 s24.1],[.osl 4,.osl 5,.i s24.2.2.2.1,.i s24.2.2.2.2],[],[4,5],rfl,rfl,⟨rfl,rfl,rfl⟩,⟨[.osl 4],[.osl 5,.i s24.2.2.2.1,.i s24.2.2.2.2],[4],[5],rfl,rfl,.inl ⟨4,rfl,rfl,rfl⟩,⟨[.osl 5],[.i s24.2.2.2.1,.i s24.2.2.2.2],[5],[],rfl,rfl,.inl ⟨5,rfl,rfl,rfl⟩,⟨[.i s24.2.2.2.1],[.i s24.2.2.2.2],[],[],rfl,rfl,⟨rfl,rfl,rfl⟩,⟨rfl,rfl,rfl⟩⟩⟩⟩⟩) rfl) (zAA hX [0] 4 rfl rfl wS wO)) rfl rfl rfl ⟨rfl,rfl,rfl,trivial⟩
      ·exact hx.elim
     ·rintro i21 ⟨s23,s24⟩ o ho
      refine sq<|rg<|V vls<|nl<|an<|sq<|?_
      refine zAO (b:=decide (i21 < (List.length x8.2.1 : Int))) rfl (fun hc34=>?_) (fun hc34=>?_)
      ·obtain ⟨q,hr,rfl⟩:=zA7 hc34 ho
       obtain ⟨x35,e36,hr⟩:=zA hr
       obtain ⟨x37,e38,hr⟩:=zA hr
       refine sk<|an<|sq<|bl<|sq<|rg<|V (zAn (t:=.i) (undX 33 rfl) (szX 3 rfl) rfl rfl rfl e36)<|?_
       refine V (zAu (tsX 3 rfl) rfl rfl rfl (zCM e36) rfl)<|V va<|nl<|an<|sq<|rg<|V vm<|V vm<|?_
       refine zAK (zAP (σ:=[0]) (as':=[.ptr 0 0,.i x35]) (f36_runs e38).x ent36 rfl ⟨cv0,cv0,trivial⟩ rfl rfl rfl ?_)
       obtain ⟨o44,e45,hr⟩:=zA hr
       refine V vm<|V vx<|V vx<|O oa<|O os<|V va<|nl<|an<|sq<|rg<|V va<|nl<|an<|sq<|sq<|rg<|V vfp<|V vlp<|V vnl<|V vm<|nl<|an<|bl<|?_
       refine zAb (t:=105) rfl (fun hl=>?_)
       refine zAI (List.length x37.1.2.2 : Int) (f41_b2 s14 x37) (fun p=>match p with | (i39,s41)=>(⟨[(0,.ptr 0 0),(6,.osl 1),(7,.osl 2),(8,.i 0),(12,.ptr 3 0),(18,.i x35),(19,.ptr 4 0),(21,.osl 5),(92,.osl 6),(93,.i (List.length x8.2.1 : Int)),(94,.i i21),(105,.sl .i x37.1.2.2),(106,.i (List.length x37.1.2.2 : Int)),(107,.i i39)],[(0,.tr E80 (some p0_0)),(1,.sl 60 Y6 s14),(2,.sl 60 Y6 s23),(3,.tr E80 (some s24)),(4,.var 42 [.i x37.1.1,.str x37.1.2.1,.sl .i x37.1.2.2]),(5,.sl 3 .i s41),(6,.sl 3 .i x8.2.1)],7⟩ : AS)) (fun o e st=>match o with | .inr _=>False | .inl s41=>e=.exit 4∧Wk X st ⟨[(0,.ptr 0 0),(6,.osl 1),(7,.osl 2),(8,.i 0),(12,.ptr 3 0),(18,.i x35),(19,.ptr 4 0),(21,.osl 5),(92,.osl 6),(93,.i (List.length x8.2.1 : Int)),(94,.i i21)],[(0,.tr E80 (some p0_0)),(1,.sl 60 Y6 s14),(2,.sl 60 Y6 s23),(3,.tr E80 (some s24)),(4,.var 42 [.i x37.1.1,.str x37.1.2.1,.sl .i x37.1.2.2]),(5,.sl 3 .i s41),(6,.sl 3 .i x8.2.1)],7⟩) (zAf hl) e45 (Wk.trans (zAt (t:=21) 3 .i rfl) (by exact zAA hX [0,1,2,3,5,6,4] 4 rfl rfl wS wO)) ?_ ?_
       ·intro e st hx
        rcases o44 with s41 | _
        ·obtain ⟨rfl,hw⟩:=hx
         refine bh<|an<|(zAY hw)<|sq<|rg<|V vm<|V vm<|V vm<|V vnp<|V vfp<|?_
         refine zAG (zAd (i:=3) [.sl Y2 s24.1,.osl 7,.osl 8,.i s24.2.2.2.1,.i s24.2.2.2.2] [.sl 54 Y4 s24.2.1,.sl 42 Y5 s24.2.2.1] rfl rfl rfl rfl)<|V vlp<|?_
         refine V (zAs (qs:=[(0,[.i x35]),(1,[.i s24.2.2.2.2])]) (cs:=[.i x35,.i s24.2.2.2.2]) bt60 rfl rfl rfl)<|?_
         refine V (zAM (t:=Y6) (qs:=[(0,[.i x35,.i s24.2.2.2.2])]) (ys:=[(x35,s24.2.2.2.2)]) bs57 rfl rfl rfl rfl rfl rfl rfl rfl)<|?_
         obtain ⟨h46,hr⟩:=zAN hr
         refine zAK (zAh rfl rfl app57 rfl rfl rfl h46 rfl ?_)
         obtain ⟨x47,e48,hr⟩:=zA hr
         refine V va<|nl<|an<|rg<|V vm<|V vfp<|V vlp<|V vm<|?_
         refine zAG (wk_frz [21,141] 5 rfl rfl rfl)<|zAG (zAT (i:=3) (T:=80) (e:=F80) (js:=[7,8]) s24 rfl (⟨[.sl Y2 s24.1],[.osl 7,.osl 8,.i s24.2.2.2.1,.i s24.2.2.2.2],[],[7,8],rfl,rfl,⟨rfl,rfl,rfl⟩,⟨[.osl 7],[.osl 8,.i s24.2.2.2.1,.i s24.2.2.2.2],[7],[8],rfl,rfl,.inl ⟨7,rfl,rfl,rfl⟩,⟨[.osl 8],[.i s24.2.2.2.1,.i s24.2.2.2.2],[8],[],rfl,rfl,.inl ⟨8,rfl,rfl,rfl⟩,⟨[.i s24.2.2.2.1],[.i s24.2.2.2.2],[],[],rfl,rfl,⟨rfl,rfl,rfl⟩,⟨rfl,rfl,rfl⟩⟩⟩⟩⟩) rfl)<|?_
         refine zAK (zAP (σ:=[3]) (as':=[.ptr 3 0,.str x37.1.2.1,.sl .i s41]) (f84_runs e48).x ent84 rfl ⟨cv0,cv0,cv0,trivial⟩ rfl rfl rfl ?_)
         refine nl<|bn<|an<|rg<|V vad<|V vm<|?_
         obtain rfl:=Option.some.inj hr
         exact zAJ ((zAA hX [0,1,9,3,6] 4 rfl rfl wS wO))
        ·exact hx.elim
       ·rintro i39 s41 o ho
        refine sq<|rg<|V vls<|nl<|an<|sq<|?_
        refine zAO (b:=decide (i39 < (List.length x37.1.2.2 : Int))) rfl (fun hc49=>?_) (fun hc49=>?_)
        ·obtain ⟨q,hr,rfl⟩:=zA7 hc49 ho
         obtain ⟨x50,e51,hr⟩:=zA hr
         obtain ⟨o55,e56,hr⟩:=zA hr
         refine sk<|an<|sq<|bl<|sq<|rg<|V (zAQ (t:=.i) (e:=x50) (undX 33 rfl) (szX 3 rfl) rfl rfl e51)<|V vlr<|V va<|nl<|an<|sq<|sq<|rg<|V vm<|V vnL<|V vm<|nl<|an<|bl<|?_
         refine zA5 (i:=1) rfl rfl (fun hl=>?_)
         refine zAI (List.length s14 : Int) (f41_b3 s14 x50) (fun p=>match p with | (i52,())=>(⟨[(0,.ptr 0 0),(6,.osl 1),(7,.osl 2),(8,.i 0),(12,.ptr 3 0),(18,.i x35),(19,.ptr 4 0),(21,.osl 5),(23,.i x50),(92,.osl 6),(93,.i (List.length x8.2.1 : Int)),(94,.i i21),(105,.sl .i x37.1.2.2),(106,.i (List.length x37.1.2.2 : Int)),(107,.i i39),(111,.osl 1),(112,.i (List.length s14 : Int)),(113,.i i52)],[(0,.tr E80 (some p0_0)),(1,.sl 60 Y6 s14),(2,.sl 60 Y6 s23),(3,.tr E80 (some s24)),(4,.var 42 [.i x37.1.1,.str x37.1.2.1,.sl .i x37.1.2.2]),(5,.sl 3 .i s41),(6,.sl 3 .i x8.2.1)],7⟩ : AS)) (fun o e st=>match o with | .inl ()=>e=.exit 6∧Wk X st ⟨[(0,.ptr 0 0),(6,.osl 1),(7,.osl 2),(8,.i 0),(12,.ptr 3 0),(18,.i x35),(19,.ptr 4 0),(21,.osl 5),(23,.i x50),(92,.osl 6),(93,.i (List.length x8.2.1 : Int)),(94,.i i21),(105,.sl .i x37.1.2.2),(106,.i (List.length x37.1.2.2 : Int)),(107,.i i39)],[(0,.tr E80 (some p0_0)),(1,.sl 60 Y6 s14),(2,.sl 60 Y6 s23),(3,.tr E80 (some s24)),(4,.var 42 [.i x37.1.1,.str x37.1.2.1,.sl .i x37.1.2.2]),(5,.sl 3 .i s41),(6,.sl 3 .i x8.2.1)],7⟩ | .inr s54=>e=.exit 6∧Wk X st ⟨[(0,.ptr 0 0),(6,.osl 1),(7,.osl 2),(8,.i 0),(12,.ptr 3 0),(18,.i x35),(19,.ptr 4 0),(21,.osl 5),(23,.i s54),(92,.osl 6),(93,.i (List.length x8.2.1 : Int)),(94,.i i21),(105,.sl .i x37.1.2.2),(106,.i (List.length x37.1.2.2 : Int)),(107,.i i39)],[(0,.tr E80 (some p0_0)),(1,.sl 60 Y6 s14),(2,.sl 60 Y6 s23),(3,.tr E80 (some s24)),(4,.var 42 [.i x37.1.1,.str x37.1.2.1,.sl .i x37.1.2.2]),(5,.sl 3 .i s41),(6,.sl 3 .i x8.2.1)],7⟩) (zAf hl) e56 (by exact zAA hX [0,1,2,3,4,5,6] 4 rfl rfl wS wO) ?_ ?_
         ·intro e st hx
          rcases o55 with _ | s54
          ·obtain ⟨rfl,hw⟩:=hx
           refine bh<|an<|(zAY hw)<|rg<|V vm<|V vm<|?_
           refine V (zAM (t:=.i) (qs:=[(0,[.i x50])]) (ys:=[x50]) bs33 rfl rfl rfl rfl rfl rfl rfl rfl)<|?_
           obtain ⟨h57,hr⟩:=zAN hr
           refine zAK (zAh rfl rfl zCt rfl rfl rfl h57 rfl ?_)
           refine V va<|nl<|bn<|an<|rg<|V vad<|V vm<|?_
           obtain rfl:=Option.some.inj hr
           exact zAJ ((zAA hX [0,1,2,3,4,7,6] 4 rfl rfl wS wO))
          ·obtain ⟨rfl,hw⟩:=hx
           refine bh<|an<|(zAY hw)<|rg<|V vm<|V vm<|?_
           refine V (zAM (t:=.i) (qs:=[(0,[.i s54])]) (ys:=[s54]) bs33 rfl rfl rfl rfl rfl rfl rfl rfl)<|?_
           obtain ⟨h58,hr⟩:=zAN hr
           refine zAK (zAh rfl rfl zCt rfl rfl rfl h58 rfl ?_)
           refine V va<|nl<|bn<|an<|rg<|V vad<|V vm<|?_
           obtain rfl:=Option.some.inj hr
           exact zAJ ((zAA hX [0,1,2,3,4,7,6] 4 rfl rfl wS wO))
         ·rintro i52 _ o ho
          refine sq<|rg<|V vls<|nl<|an<|sq<|?_
          refine zAO (b:=decide (i52 < (List.length s14 : Int))) rfl (fun hc59=>?_) (fun hc59=>?_)
          ·obtain ⟨q,hr,rfl⟩:=zA7 hc59 ho
           obtain ⟨x60,e61,hr⟩:=zA hr
           refine sk<|an<|sq<|bl<|sq<|rg<|V (zAn (t:=Y6) (undX 57 rfl) (szX 60 rfl) rfl rfl rfl e61)<|?_
           refine V (zB5 (tsX 60 rfl) rfl rfl rfl (zCM e61) rfl rfl)<|O oa<|O os<|nl<|an<|sq<|rg<|?_
           refine V (av_ia_parr (undX 60 rfl) (szX 3 rfl) rfl rfl rfl rfl)<|V vlp<|V vm<|V veq<|nl<|an<|?_
           refine cnd (fun hc62 hr=>?_) (fun hc62 hr=>?_)
           ·refine sq<|rg<|V (av_ia_parr (undX 60 rfl) (szX 3 rfl) rfl rfl rfl rfl)<|V vlp<|V va<|?_
            obtain rfl:=Option.some.inj hr
            exact zAJ (zAZ (zAH ((zBF rfl) (zAF (⟨rfl,(zAA hX [0,1,2,3,4,5,6] 4 rfl rfl wS wO)⟩)))))
           ·refine sk<|bn<|an<|rg<|V vad<|V vm<|?_
            obtain rfl:=Option.some.inj hr
            exact zAJ ((zAA hX [0,1,2,3,4,5,6] 4 rfl rfl wS wO))
          ·obtain rfl:=zA8 hc59 ho
           exact zAH (zAF (⟨rfl,(zAA hX [0,1,2,3,4,5,6] 4 rfl rfl wS wO)⟩))
        ·obtain rfl:=zA8 hc49 ho
         exact zAH (zAF (⟨rfl,(zAA hX [0,1,2,3,4,5,6] 4 rfl rfl wS wO)⟩))
      ·obtain rfl:=zA8 hc34 ho
       exact zAH (zAF (⟨rfl,(zAA hX [0,1,2,3] 4 rfl rfl wS wO)⟩))
    ·exact hx.elim
   ·rintro i12 ⟨s14,s15⟩ o ho
    refine sq<|rg<|V vls<|nl<|an<|sq<|?_
    refine zAO (b:=decide (i12 < (List.length x8.1 : Int))) rfl (fun hc63=>?_) (fun hc63=>?_)
    ·obtain ⟨q,hr,rfl⟩:=zA7 hc63 ho
     obtain ⟨x64,e65,hr⟩:=zA hr
     obtain ⟨x66,e67,hr⟩:=zA hr
     refine sk<|an<|sq<|bl<|sq<|rg<|V (zAn (t:=.i) (undX 33 rfl) (szX 3 rfl) rfl rfl rfl e65)<|?_
     refine V (zAu (tsX 3 rfl) rfl rfl rfl (zCM e65) rfl)<|V va<|nl<|an<|sq<|rg<|V vm<|V vm<|?_
     refine zAG (zAd (i:=0) [.sl Y2 p0_0.1,.osl 5,.osl 6,.i p0_0.2.2.2.1,.i p0_0.2.2.2.2] [.sl 54 Y4 p0_0.2.1,.sl 42 Y5 p0_0.2.2.1] rfl rfl rfl rfl)<|V (zBD (as':=[.ptr 0 0,.i x64]) (Hs:=[]) (f35_runs e67).x ent35 rfl ⟨cv0,cv0,trivial⟩ rfl rfl rfl)<|V vm<|V vx<|V vx<|O oa<|O os<|V va<|nl<|an<|sq<|rg<|V vm<|V vm<|V vm<|V vnp<|V vfp<|?_
     refine zAG (zAd (i:=3) [.sl Y2 s15.1,.osl 8,.osl 9,.i s15.2.2.2.1,.i s15.2.2.2.2] [.sl 54 Y4 s15.2.1,.sl 42 Y5 s15.2.2.1] rfl rfl rfl rfl)<|V vlp<|?_
     refine V (zAs (qs:=[(0,[.i x64]),(1,[.i s15.2.2.2.1])]) (cs:=[.i x64,.i s15.2.2.2.1]) bt60 rfl rfl rfl)<|?_
     refine V (zAM (t:=Y6) (qs:=[(0,[.i x64,.i s15.2.2.2.1])]) (ys:=[(x64,s15.2.2.2.1)]) bs57 rfl rfl rfl rfl rfl rfl rfl rfl)<|?_
     obtain ⟨h68,hr⟩:=zAN hr
     refine zAK (zAh rfl rfl app57 rfl rfl rfl h68 rfl ?_)
     refine V va<|nl<|an<|sq<|?_
     obtain ⟨h69,hr⟩:=zAN hr
     refine zCV (st2:=⟨[(0,.ptr 0 0),(2,.i p2),(6,.osl 10),(7,.nils),(8,.i 0),(10,.osl 2),(12,.ptr 3 0),(46,.osl 4),(47,.i (List.length x8.1 : Int)),(48,.i i12),(81,.osl 11)],[(0,.var 80 [.sl Y2 p0_0.1,.osl 5,.osl 6,.i p0_0.2.2.2.1,.i p0_0.2.2.2.2]),(1,.dead),(2,.sl 3 .i x8.2.1),(3,.var 80 [.sl Y2 s15.1,.osl 8,.osl 9,.i s15.2.2.2.1,.i s15.2.2.2.2]),(4,.sl 3 .i x8.1),(5,.sl 54 Y4 p0_0.2.1),(6,.sl 42 Y5 p0_0.2.2.1),(7,.var 54 [.i x66.1.1,.i x66.1.2.1,.str x66.1.2.2]),(8,.dead),(9,.sl 42 Y5 s15.2.2.1),(10,.sl 60 Y6 (s14++[(x64,s15.2.2.2.1)])),(11,.sl 54 Y4 (s15.2.1++[(s15.2.2.2.1,p2,x66.1.2.2)]))],12⟩) 14 [0] [0,2,3,4,14,6,7,8,12,12,11,12,13,14] [[],[],[],[],[],[],[],[],[],[],[],[],[],[]] mixed [0,2,6,7,8,10,12,46,47,48,15] [(true,.ptr 3 0),(true,.ptr 3 0),(true,.ptr 3 0),(true,.ptr 3 1),(true,.osl 8),(true,.ptr 3 0),(true,.ptr 3 0),(true,.ptr 3 3),(true,.i s15.2.2.2.1),(true,.i p2),(true,.ptr 7 2),(true,.str x66.1.2.2),(true,.agg [.i s15.2.2.2.1,.i p2,.str x66.1.2.2]),(true,.sl Y4 [(s15.2.2.2.1,p2,x66.1.2.2)])] [[],[],[1],[2],[3],[],[5],[6],[7],[],[],[10],[8,9,11],[12]] [4,13] [0,2,6,7,8,10,12,46,47,48,81] rfl rfl rfl rfl rfl rfl rfl rfl rfl rfl rfl rfl ⟨?_,?_,?_,?_,?_,?_,?_,?_,?_,?_,?_,?_,?_,?_,trivial⟩ (zAD ⟨rfl,rfl,trivial⟩) rfl ⟨(fun X' o ho=>by obtain rfl:=Option.some.inj ho; exact zAg rfl),trivial⟩ rfl (fun X'=>zAh rfl rfl app52 rfl rfl rfl h69 rfl ⟨⟨rfl,rfl,rfl,rfl,rfl,rfl,rfl,rfl,rfl,rfl,rfl,trivial⟩,⟨rfl,rfl,rfl,rfl,rfl,rfl,rfl,rfl,rfl,rfl,rfl,rfl,trivial⟩,rfl⟩) ?_
     ·exact oB wm
     ·exact oB wm
     ·exact oB wnp
     ·exact oB wfp
     ·exact oB wlp
     ·exact oB wm
     ·exact oB wnp
     ·exact oB wfp
     ·exact oB wlp
     ·exact oB wm
     ·exact oB wfp
     ·exact oB wlp
     ·exact zAr rfl (fun hg=>zAD ⟨rfl,rfl,rfl,trivial⟩) (fun hg=>zAs (qs:=[(0,[.i s15.2.2.2.1]),(1,[.i p2]),(2,[.str x66.1.2.2])]) (cs:=[.i s15.2.2.2.1,.i p2,.str x66.1.2.2]) bt54 rfl rfl rfl)
     ·exact zAr rfl (fun hg=>zAD ⟨rfl,trivial⟩) (fun hg=>zAM (t:=Y4) (qs:=[(0,[.i s15.2.2.2.1,.i p2,.str x66.1.2.2])]) (ys:=[(s15.2.2.2.1,p2,x66.1.2.2)]) bs52 rfl rfl rfl rfl rfl rfl rfl rfl)
     refine V vnp<|V vfp<|O os<|nl<|an<|rg<|V vm<|V vnp<|V vfp<|V vlp<|V vad<|V vnp<|V vfp<|O os<|nl<|bn<|an<|rg<|V vad<|V vm<|?_
     obtain rfl:=Option.some.inj hr
     exact zAJ ((Wk.trans (zAT (i:=0) (T:=80) (e:=F80) (js:=[5,6]) p0_0 rfl (⟨[.sl Y2 p0_0.1],[.osl 5,.osl 6,.i p0_0.2.2.2.1,.i p0_0.2.2.2.2],[],[5,6],rfl,rfl,⟨rfl,rfl,rfl⟩,⟨[.osl 5],[.osl 6,.i p0_0.2.2.2.1,.i p0_0.2.2.2.2],[5],[6],rfl,rfl,.inl ⟨5,rfl,rfl,rfl⟩,⟨[.osl 6],[.i p0_0.2.2.2.1,.i p0_0.2.2.2.2],[6],[],rfl,rfl,.inl ⟨6,rfl,rfl,rfl⟩,⟨[.i p0_0.2.2.2.1],[.i p0_0.2.2.2.2],[],[],rfl,rfl,⟨rfl,rfl,rfl⟩,⟨rfl,rfl,rfl⟩⟩⟩⟩⟩) rfl) (Wk.trans (zAT (i:=3) (T:=80) (e:=F80) (js:=[11,9]) (s15.1,(s15.2.1++[(s15.2.2.2.1,p2,x66.1.2.2)]),s15.2.2.1,(w64 (s15.2.2.2.1+1)),s15.2.2.2.2) rfl (⟨[.sl Y2 s15.1],[.osl 11,.osl 9,.i (w64 (s15.2.2.2.1+1)),.i s15.2.2.2.2],[],[11,9],rfl,rfl,⟨rfl,rfl,rfl⟩,⟨[.osl 11],[.osl 9,.i (w64 (s15.2.2.2.1+1)),.i s15.2.2.2.2],[11],[9],rfl,rfl,.inl ⟨11,rfl,rfl,rfl⟩,⟨[.osl 9],[.i (w64 (s15.2.2.2.1+1)),.i s15.2.2.2.2],[9],[],rfl,rfl,.inl ⟨9,rfl,rfl,rfl⟩,⟨[.i (w64 (s15.2.2.2.1+1))],[.i s15.2.2.2.2],[],[],rfl,rfl,⟨rfl,rfl,rfl⟩,⟨rfl,rfl,rfl⟩⟩⟩⟩⟩) rfl) (zAA hX [0,10,2,3,4] 4 rfl rfl wS wO))))
    ·obtain rfl:=zA8 hc63 ho
     exact zAH (zAF (⟨rfl,(zAA hX [0,1,2,3] 4 rfl rfl wS wO)⟩))
theorem eq60 {a0 b0:Int}{a1 b1:Int} : EqT Tryz.prog 60 [.int .i64 a0,.int .i64 a1] [.int .i64 b0,.int .i64 b1]:=⟨by kernel_rfl,fun w=>run_eqArr (e:=3) (n:=2) (by kernel_rfl) (by kernel_rfl) (by kernel_rfl) (by kernel_rfl) (by kernel_rfl) (by kernel_rfl)⟩
theorem fv91_0 : FieldV Tryz.prog 91 0 0 false 1:=fieldV_of' (fs:=Tryz.prog.fieldsOf 91) (by kernel_rfl) (by kernel_rfl) (tsX 89 rfl) (by decide)
theorem f42_runs {p0:List (Int×Int)}{p1:List (Int×Int)}{r:Bool}(hr:f42 p0 p1=some r) : zBb Tryz.prog 42 [.sl Y6 p0,.sl Y6 p1] [.bool r]:=by
 refine zAW Tryz.func42 Tryz.ntmps42 rfl (rs:=[.tmp 4]) rfl rfl fun w0 X hX=>?_
 refine sq<|rg<|V va<|nl<|an<|sq<|sq<|rg<|V vm<|V vnl<|V vm<|V vnl<|V vne<|nl<|an<|?_
 refine cnd (fun hc1 hr=>?_) (fun hc1 hr=>?_)
 ·refine sq<|rg<|V va<|?_
  obtain rfl:=Option.some.inj hr
  exact nl<|an<|cr<|zAC (zAk (l':=[(4,.bool false)]) (zAA hX [] 4 rfl rfl wS trivial) rfl ⟨rfl,trivial⟩)
 ·obtain ⟨o4,e5,hr⟩:=zA hr
  refine sk<|an<|sq<|sq<|rg<|V vm<|V vnl<|V vm<|nl<|an<|bl<|?_
  refine zAb (t:=0) rfl (fun hl=>?_)
  refine zAI (List.length p0 : Int) (f42_b0 p0 p1) (fun p=>match p with | (i2,())=>(⟨[(0,.sl Y6 p0),(1,.sl Y6 p1),(4,.bool false),(12,.i (List.length p0 : Int)),(13,.i i2)],[],0⟩ : AS)) (fun o e st=>match o with | .inl ()=>e=.exit 0∧Wk X st ⟨[(4,.bool false)],[],0⟩ | .inr ()=>e=.ret∧Wk X st ⟨[(4,.bool false)],[],0⟩) (zAf hl) e5 (by exact zAA hX [] 4 rfl rfl wS trivial) ?_ ?_
  ·intro e st hx
   rcases o4 with _ | _
   ·obtain ⟨rfl,hw⟩:=hx
    refine bh<|an<|(zAY hw)<|sq<|rg<|V va<|?_
    obtain rfl:=Option.some.inj hr
    exact nl<|an<|cr<|zAk (l':=[(4,.bool true)]) (zAA hX [] 4 rfl rfl wS trivial) rfl ⟨rfl,trivial⟩
   ·obtain ⟨rfl,hw⟩:=hx
    obtain rfl:=Option.some.inj hr
    exact zAE (zAC (zAk (l':=[(4,.bool false)]) (Wk.trans hw (zAA hX [] 4 rfl rfl wS trivial)) rfl ⟨rfl,trivial⟩))
  ·rintro i2 _ o ho
   refine sq<|rg<|V vls<|nl<|an<|sq<|?_
   refine zAO (b:=decide (i2 < (List.length p0 : Int))) rfl (fun hc6=>?_) (fun hc6=>?_)
   ·obtain ⟨q,hr,rfl⟩:=zA7 hc6 ho
    obtain ⟨x7,e8,hr⟩:=zA hr
    obtain ⟨x9,e10,hr⟩:=zA hr
    refine sk<|an<|sq<|bl<|sq<|rg<|V vm<|V va<|nl<|an<|sq<|?_
    refine zBE mixed [0,1,4,12,13,5] [(true,.sl Y6 p0),(true,.i i2),(true,.rp [.i x7.1,.i x7.2]),(true,.agg [.i x7.1,.i x7.2]),(true,.sl Y6 p1),(true,.i i2),(true,.rp [.i x9.1,.i x9.2]),(true,.agg [.i x9.1,.i x9.2]),(true,.bool (!((decide (x7.1=x9.1))&&(decide (x7.2=x9.2)))))] [[],[],[0,1],[2],[],[],[4,5],[6],[3,7]] [8] rfl rfl rfl rfl rfl ⟨?_,?_,?_,?_,?_,?_,?_,?_,?_,trivial⟩ (zAD ⟨rfl,trivial⟩) ?_
    ·exact oB wm
    ·exact oB wm
    ·exact zAr rfl (fun hg=>zAD ⟨rfl,rfl,trivial⟩) (fun hg=>zAQ (t:=Y6) (e:=x7) (undX 57 rfl) (szX 60 rfl) rfl rfl e8)
    ·exact oB wlR
    ·exact oB wm
    ·exact oB wm
    ·exact zAr rfl (fun hg=>zAD ⟨rfl,rfl,trivial⟩) (fun hg=>zAQ (t:=Y6) (e:=x9) (undX 57 rfl) (szX 60 rfl) rfl rfl e10)
    ·exact oB wlR
    ·exact zAr rfl (fun hg=>zAD ⟨rfl,rfl,trivial⟩) (fun hg=>av_neqA (r:=(decide (x7.1=x9.1))&&(decide (x7.2=x9.2))) eq60 rfl rfl rfl rfl rfl rfl)
    refine an<|?_
    refine cnd (fun hc11 hr=>?_) (fun hc11 hr=>?_)
    ·refine sq<|rg<|V va<|?_
     obtain rfl:=Option.some.inj hr
     exact nl<|an<|cr<|zAE (zAC (⟨rfl,(zAA hX [] 4 rfl rfl wS trivial)⟩))
    ·refine sk<|bn<|an<|rg<|V vad<|V vm<|?_
     obtain rfl:=Option.some.inj hr
     exact zAJ ((zAA hX [] 4 rfl rfl wS trivial))
   ·obtain rfl:=zA8 hc6 ho
    exact zAH (zAF (⟨rfl,(zAA hX [] 4 rfl rfl wS trivial)⟩))
theorem f43_runs {p0_0:ZW}{p1:Int}{p2:Int}{r:List Int×Int×(ZW)}(hr:f43 p0_0 p1 p2=some r) : Runs Tryz.prog 43 [.ptr 0 0,.i p1,.i p2] [.tr E76 (some p0_0)] (fun q Hq=>q=[.sl .i r.1,.i r.2.1]∧Hq=[.tr E76 (some r.2.2)]):=by
 refine zAW Tryz.func43 Tryz.ntmps43 rfl (rs:=[.tmp 6,.tmp 7]) rfl rfl fun w0 X hX=>?_
 obtain ⟨x2,e3,hr⟩:=zA hr
 refine sq<|rg<|V va<|V va<|nl<|an<|sq<|sq<|rg<|V vm<|V vm<|V vm<|?_
 refine zAG (zAd (i:=0) (W76 p0_0 1 2) [.map .i Y4 p0_0.2.1,.map .i Y5 p0_0.2.2.1] rfl rfl rfl rfl)<|V (zAj (as':=[.ptr 0 0,.i p1,.i p2]) (f58_runs e3).x ent58 rfl ⟨cv0,cv0,cv0,trivial⟩ rfl rfl)<|V va<|nl<|an<|sq<|rg<|V vm<|V vne<|nl<|an<|?_
 refine cnd (fun hc4 hr=>?_) (fun hc4 hr=>?_)
 ·refine sq<|rg<|V vm<|V va<|V va<|?_
  obtain rfl:=Option.some.inj hr
  exact nl<|an<|cr<|zAC (zAe (l':=[(6,.sl .i ([] : List Int)),(7,.i x2)]) (Hs:=[(0,.tr E76 (some p0_0))]) (n:=1) (Wk.trans (zAT (i:=0) (T:=76) (e:=F76) (js:=[1,2]) p0_0 rfl (⟨[.sl Y2 p0_0.1],[.map 1,.map 2,.i p0_0.2.2.2.1,.i p0_0.2.2.2.2],[],[1,2],rfl,rfl,⟨rfl,rfl,rfl⟩,⟨[.map 1],[.map 2,.i p0_0.2.2.2.1,.i p0_0.2.2.2.2],[1],[2],rfl,rfl,⟨1,rfl,rfl,rfl⟩,⟨[.map 2],[.i p0_0.2.2.2.1,.i p0_0.2.2.2.2],[2],[],rfl,rfl,⟨2,rfl,rfl,rfl⟩,⟨[.i p0_0.2.2.2.1],[.i p0_0.2.2.2.2],[],[],rfl,rfl,⟨rfl,rfl,rfl⟩,⟨rfl,rfl,rfl⟩⟩⟩⟩⟩) rfl) (zAA hX [0] 4 rfl rfl ⟨⟨_,rfl,cv2⟩,⟨_,rfl,cv0⟩,trivial⟩ wO)) rfl rfl rfl ⟨rfl,rfl,trivial⟩)
 ·obtain ⟨x5,e6,hr⟩:=zA hr
  refine sk<|an<|sq<|rg<|V vm<|V vm<|?_
  refine zAK (zAp (as':=[.ptr 0 0,.i p1,.i 2]) (f51_runs e6).x ent51 rfl ⟨cv0,cv0,cv0,trivial⟩ rfl rfl rfl ?_)
  obtain ⟨x7,e8,hr⟩:=zA hr
  refine V (av_field fv91_0 rfl rfl)<|?_
  refine zAK (zAp (as':=[.map 3]) (zCU e8).x ent52 rfl ⟨cv0,trivial⟩ rfl rfl rfl ?_)
  obtain ⟨o14,e15,hr⟩:=zA hr
  refine V va<|nl<|an<|sq<|sq<|rg<|V vm<|V vnL<|V vm<|nl<|an<|bl<|?_
  refine zA5 (i:=6) rfl rfl (fun hl=>?_)
  refine zAI (List.length x7 : Int) (f43_b0 p2 x7) (fun p=>match p with | (i9,s11)=>(⟨[(0,.ptr 0 0),(2,.i p2),(6,.nils),(7,.i 0),(9,.osl 1),(25,.osl 1),(26,.i (List.length x7 : Int)),(27,.i i9)],[(0,.tr E76 (some s11)),(1,.sl 3 .i x7)],2⟩ : AS)) (fun o e st=>match o with | .inr _=>False | .inl s11=>e=.exit 0∧Wk X st ⟨[(6,.nils),(7,.i 0),(9,.osl 1)],[(0,.tr E76 (some s11)),(1,.sl 3 .i x7)],2⟩) (zAf hl) e15 (Wk.trans (zAT (i:=0) (T:=76) (e:=F76) (js:=[1,2]) p0_0 rfl (⟨[.sl Y2 p0_0.1],[.map 1,.map 2,.i p0_0.2.2.2.1,.i p0_0.2.2.2.2],[],[1,2],rfl,rfl,⟨rfl,rfl,rfl⟩,⟨[.map 1],[.map 2,.i p0_0.2.2.2.1,.i p0_0.2.2.2.2],[1],[2],rfl,rfl,⟨1,rfl,rfl,rfl⟩,⟨[.map 2],[.i p0_0.2.2.2.1,.i p0_0.2.2.2.2],[2],[],rfl,rfl,⟨2,rfl,rfl,rfl⟩,⟨[.i p0_0.2.2.2.1],[.i p0_0.2.2.2.2],[],[],rfl,rfl,⟨rfl,rfl,rfl⟩,⟨rfl,rfl,rfl⟩⟩⟩⟩⟩) rfl) (by exact zAA hX [0,6] 4 rfl rfl wS wO)) ?_ ?_
  ·intro e st hx
   rcases o14 with s11 | _
   ·obtain ⟨rfl,hw⟩:=hx
    refine bh<|an<|(zAY hw)<|sq<|rg<|V vm<|V va<|V va<|?_
    obtain rfl:=Option.some.inj hr
    exact nl<|an<|cr<|zAe (l':=[(6,.sl .i x7),(7,.i 0)]) (Hs:=[(0,.tr E76 (some s11))]) (n:=1) (zAA hX [0] 4 rfl rfl wS wO) rfl rfl rfl ⟨rfl,rfl,trivial⟩
   ·exact hx.elim
  ·rintro i9 s11 o ho
   refine sq<|rg<|V vls<|nl<|an<|sq<|?_
   refine zAO (b:=decide (i9 < (List.length x7 : Int))) rfl (fun hc16=>?_) (fun hc16=>?_)
   ·obtain ⟨q,hr,rfl⟩:=zA7 hc16 ho
    obtain ⟨x17,e18,hr⟩:=zA hr
    refine sk<|an<|sq<|bl<|sq<|rg<|V (zAn (t:=.i) (undX 33 rfl) (szX 3 rfl) rfl rfl rfl e18)<|?_
    refine V (zAu (tsX 3 rfl) rfl rfl rfl (zCM e18) rfl)<|V va<|nl<|an<|sq<|rg<|V vm<|V vnp<|V vfp<|?_
    refine zAG (zAd (i:=0) (W76 s11 2 3) [.map .i Y4 s11.2.1,.map .i Y5 s11.2.2.1] rfl rfl rfl rfl)<|V vlp<|V vm<|?_
    refine V (zBG (kx:=x17) (r:=.agg [.i ((((mget s11.2.1 x17).getD (0,0,([] : Str)))).1),.i (((((mget s11.2.1 x17).getD (0,0,([] : Str)))).2).1),.str (((((mget s11.2.1 x17).getD (0,0,([] : Str)))).2).2)]) (undX 73 rfl) kt3 zw54 rfl rfl rfl rfl rfl)<|O oa<|O os<|nl<|an<|sq<|rg<|V vm<|V vfp<|O os<|nl<|an<|?_
    refine zB0 6 [6,6,6,6,6,6] mixed [0,2,6,7,9,25,26,27,11,12] [(true,.ptr 0 0),(true,.ptr 0 0),(true,.ptr 0 1),(true,.map 2),(true,.i x17),(true,.agg [.i ((((mget s11.2.1 x17).getD (0,0,([] : Str)))).1),.i p2,.str (((((mget s11.2.1 x17).getD (0,0,([] : Str)))).2).2)])] [[],[0],[1],[2],[],[]] [3,4,5] rfl rfl rfl rfl rfl rfl rfl rfl ⟨?_,?_,?_,?_,?_,?_,trivial⟩ (zAD ⟨rfl,rfl,rfl,trivial⟩) ?_
    ·exact oB wm
    ·exact oB wnp
    ·exact oB wfp
    ·exact oB wlp
    ·exact oB wm
    ·exact oB wlP
    refine zAK (zB (kx:=x17) (vx:=((((mget s11.2.1 x17).getD (0,0,([] : Str)))).1,p2,((((mget s11.2.1 x17).getD (0,0,([] : Str)))).2).2)) (undX 73 rfl) kt3 (.inl rfl) rfl rfl rfl rfl rfl rfl rfl ?_)
    refine nl<|bn<|an<|rg<|V vad<|V vm<|?_
    obtain rfl:=Option.some.inj hr
    exact zAJ ((Wk.trans (zAT (i:=0) (T:=76) (e:=F76) (js:=[2,3]) (s11.1,(mset s11.2.1 x17 ((((mget s11.2.1 x17).getD (0,0,([] : Str)))).1,p2,((((mget s11.2.1 x17).getD (0,0,([] : Str)))).2).2)),s11.2.2.1,s11.2.2.2.1,s11.2.2.2.2) rfl (⟨[.sl Y2 s11.1],[.map 2,.map 3,.i s11.2.2.2.1,.i s11.2.2.2.2],[],[2,3],rfl,rfl,⟨rfl,rfl,rfl⟩,⟨[.map 2],[.map 3,.i s11.2.2.2.1,.i s11.2.2.2.2],[2],[3],rfl,rfl,⟨2,rfl,rfl,rfl⟩,⟨[.map 3],[.i s11.2.2.2.1,.i s11.2.2.2.2],[3],[],rfl,rfl,⟨3,rfl,rfl,rfl⟩,⟨[.i s11.2.2.2.1],[.i s11.2.2.2.2],[],[],rfl,rfl,⟨rfl,rfl,rfl⟩,⟨rfl,rfl,rfl⟩⟩⟩⟩⟩) rfl) (zAA hX [0,1] 4 rfl rfl wS wO)))
   ·obtain rfl:=zA8 hc16 ho
    exact zAH (zAF (⟨rfl,(zAA hX [0,1] 4 rfl rfl wS wO)⟩))
theorem f44_runs {p0_0:ZR}{p1:Int}{p2:Int}{r:List Int×Int×(ZR)}(hr:f44 p0_0 p1 p2=some r) : Runs Tryz.prog 44 [.ptr 0 0,.i p1,.i p2] [.tr E80 (some p0_0)] (fun q Hq=>q=[.sl .i r.1,.i r.2.1]∧Hq=[.tr E80 (some r.2.2)]):=by
 refine zAW Tryz.func44 Tryz.ntmps44 rfl (rs:=[.tmp 6,.tmp 7]) rfl rfl fun w0 X hX=>?_
 obtain ⟨x2,e3,hr⟩:=zA hr
 refine sq<|rg<|V va<|V va<|nl<|an<|sq<|sq<|?_
 refine zAa [0,1,2,6,7] [(true,.i p2),(true,.bool x2),(true,.bool (!x2)),(true,.bool (!x2)),(!(!x2),.i p1),(!(!x2),.bool (decide (p1 < 0))),(true,.bool ((!x2)||(decide (p1 < 0))))] [[],[0],[1],[2],[3],[4,3],[5,3]] [6] rfl rfl rfl rfl rfl ⟨?_,?_,?_,?_,?_,?_,?_,trivial⟩ (zAD ⟨rfl,trivial⟩) ?_
 ·exact oB wm
 ·exact zAr rfl (fun hg=>zAD ⟨rfl,trivial⟩) (fun hg=>zAV (f91_runs e3).x ent91 rfl rfl)
 ·exact oB wno
 ·exact oB wm
 ·exact oB wm
 ·exact oB wls
 ·exact zBr
 refine an<|?_
 refine cnd (fun hc4 hr=>?_) (fun hc4 hr=>?_)
 ·refine sq<|rg<|V va<|V va<|?_
  obtain rfl:=Option.some.inj hr
  exact nl<|an<|cr<|zAC (zAe (l':=[(6,.sl .i ([] : List Int)),(7,.i 7)]) (Hs:=[(0,.tr E80 (some p0_0))]) (n:=1) (zAA hX [0] 4 rfl rfl ⟨⟨_,rfl,cv2⟩,⟨_,rfl,cv0⟩,trivial⟩ wO) rfl rfl rfl ⟨rfl,rfl,trivial⟩)
 ·obtain ⟨x5,e6,hr⟩:=zA hr
  refine sk<|an<|sq<|sq<|rg<|V vm<|V vm<|?_
  refine zAG (zAd (i:=0) [.sl Y2 p0_0.1,.osl 1,.osl 2,.i p0_0.2.2.2.1,.i p0_0.2.2.2.2] [.sl 54 Y4 p0_0.2.1,.sl 42 Y5 p0_0.2.2.1] rfl rfl rfl rfl)<|V (zAj (as':=[.ptr 0 0,.i p1]) (f82_runs e6).x ent82 rfl ⟨cv0,cv0,trivial⟩ rfl rfl)<|V vno<|nl<|an<|?_
  refine cnd (fun hc7 hr=>?_) (fun hc7 hr=>?_)
  ·refine sq<|rg<|V va<|V va<|?_
   obtain rfl:=Option.some.inj hr
   exact nl<|an<|cr<|zAC (zAe (l':=[(6,.sl .i ([] : List Int)),(7,.i 8)]) (Hs:=[(0,.tr E80 (some p0_0))]) (n:=1) (Wk.trans (zAT (i:=0) (T:=80) (e:=F80) (js:=[1,2]) p0_0 rfl (⟨[.sl Y2 p0_0.1],[.osl 1,.osl 2,.i p0_0.2.2.2.1,.i p0_0.2.2.2.2],[],[1,2],rfl,rfl,⟨rfl,rfl,rfl⟩,⟨[.osl 1],[.osl 2,.i p0_0.2.2.2.1,.i p0_0.2.2.2.2],[1],[2],rfl,rfl,.inl ⟨1,rfl,rfl,rfl⟩,⟨[.osl 2],[.i p0_0.2.2.2.1,.i p0_0.2.2.2.2],[2],[],rfl,rfl,.inl ⟨2,rfl,rfl,rfl⟩,⟨[.i p0_0.2.2.2.1],[.i p0_0.2.2.2.2],[],[],rfl,rfl,⟨rfl,rfl,rfl⟩,⟨rfl,rfl,rfl⟩⟩⟩⟩⟩) rfl) (zAA hX [0] 4 rfl rfl ⟨⟨_,rfl,cv2⟩,⟨_,rfl,cv0⟩,trivial⟩ wO)) rfl rfl rfl ⟨rfl,rfl,trivial⟩)
  ·obtain ⟨x8,e9,hr⟩:=zA hr
   refine sk<|an<|sq<|rg<|V vm<|V vm<|?_
   refine zAK (zAp (as':=[.ptr 0 0,.i p1,.i 2]) (f90_runs e9).x ent90 rfl ⟨cv0,cv0,cv0,trivial⟩ rfl rfl rfl ?_)
   obtain ⟨o15,e16,hr⟩:=zA hr
   refine V vm<|V vx<|V vx<|V vx<|V va<|V va<|V va<|nl<|an<|sq<|sq<|rg<|V vm<|V vnp<|V vfp<|V vlp<|V vnL<|V vm<|nl<|an<|bl<|?_
   refine zA5 (i:=1) rfl rfl (fun hl=>?_)
   refine zAI (List.length p0_0.2.1 : Int) (f44_b0 p2 x8) (fun p=>match p with | (i10,s12)=>(⟨[(0,.ptr 0 0),(2,.i p2),(6,.nils),(7,.i 0),(8,.osl 1),(34,.osl 2),(35,.i (List.length p0_0.2.1 : Int)),(36,.i i10)],[(0,.var 80 [.sl Y2 p0_0.1,.osl 2,.osl 3,.i p0_0.2.2.2.1,.i p0_0.2.2.2.2]),(1,.sl 3 .i x8.1),(2,.sl 54 Y4 s12),(3,.sl 42 Y5 p0_0.2.2.1)],4⟩ : AS)) (fun o e st=>match o with | .inr _=>False | .inl s12=>e=.exit 0∧Wk X st ⟨[(6,.nils),(7,.i 0),(8,.osl 1)],[(0,.var 80 [.sl Y2 p0_0.1,.osl 2,.osl 3,.i p0_0.2.2.2.1,.i p0_0.2.2.2.2]),(1,.sl 3 .i x8.1),(2,.sl 54 Y4 s12),(3,.sl 42 Y5 p0_0.2.2.1)],4⟩) (zAf hl) e16 (by exact zAA hX [0,3,1,2] 4 rfl rfl wS wO) ?_ ?_
   ·intro e st hx
    rcases o15 with s12 | _
    ·obtain ⟨rfl,hw⟩:=hx
     refine bh<|an<|(zAY hw)<|sq<|rg<|V vm<|V va<|V va<|?_
     obtain rfl:=Option.some.inj hr
     exact nl<|an<|cr<|zAe (l':=[(6,.sl .i x8.1),(7,.i 0)]) (Hs:=[(0,.tr E80 (some (p0_0.1,s12,p0_0.2.2.1,p0_0.2.2.2.1,p0_0.2.2.2.2)))]) (n:=1) (Wk.trans (zAT (i:=0) (T:=80) (e:=F80) (js:=[2,3]) (p0_0.1,s12,p0_0.2.2.1,p0_0.2.2.2.1,p0_0.2.2.2.2) rfl (⟨[.sl Y2 p0_0.1],[.osl 2,.osl 3,.i p0_0.2.2.2.1,.i p0_0.2.2.2.2],[],[2,3],rfl,rfl,⟨rfl,rfl,rfl⟩,⟨[.osl 2],[.osl 3,.i p0_0.2.2.2.1,.i p0_0.2.2.2.2],[2],[3],rfl,rfl,.inl ⟨2,rfl,rfl,rfl⟩,⟨[.osl 3],[.i p0_0.2.2.2.1,.i p0_0.2.2.2.2],[3],[],rfl,rfl,.inl ⟨3,rfl,rfl,rfl⟩,⟨[.i p0_0.2.2.2.1],[.i p0_0.2.2.2.2],[],[],rfl,rfl,⟨rfl,rfl,rfl⟩,⟨rfl,rfl,rfl⟩⟩⟩⟩⟩) rfl) (zAA hX [0] 4 rfl rfl wS wO)) rfl rfl rfl ⟨rfl,rfl,trivial⟩
    ·exact hx.elim
   ·rintro i10 s12 o ho
    refine sq<|rg<|V vls<|nl<|an<|sq<|?_
    refine zAO (b:=decide (i10 < (List.length p0_0.2.1 : Int))) rfl (fun hc17=>?_) (fun hc17=>?_)
    ·obtain ⟨q,hr,rfl⟩:=zA7 hc17 ho
     obtain ⟨o19,e20,hr⟩:=zA hr
     refine sk<|an<|?_
     refine zAy (S:=(List (Int×Int×Str))) (R:=Unit) (fun s=>match s with | s18=>(⟨[(0,.ptr 0 0),(2,.i p2),(6,.nils),(7,.i 0),(8,.osl 1),(34,.osl 2),(35,.i (List.length p0_0.2.1 : Int)),(36,.i i10)],[(0,.var 80 [.sl Y2 p0_0.1,.osl 2,.osl 3,.i p0_0.2.2.2.1,.i p0_0.2.2.2.2]),(1,.sl 3 .i x8.1),(2,.sl 54 Y4 s18),(3,.sl 42 Y5 p0_0.2.2.1)],4⟩ : AS)) (fun _ _ _=>False) e20 (fun hr=>?_) ?_ ?_
     ·obtain ⟨x21,e22,hr⟩:=zA hr
      obtain ⟨x23,e24,hr⟩:=zA hr
      refine bl<|sq<|rg<|V vm<|?_
      refine V (zAn (t:=Y4) (undX 52 rfl) (szX 54 rfl) rfl rfl rfl e22)<|?_
      refine V (zB5 (tsX 54 rfl) rfl rfl rfl (zCM e22) rfl rfl)<|O oa<|V va<|O os<|nl<|an<|sq<|rg<|V vm<|V vfp<|V vlp<|?_
      refine V (zAj (as':=[.osl 1,.i x21.1]) (zBY e24).x zB9 rfl ⟨cv0,cv0,trivial⟩ rfl rfl)<|nl<|an<|?_
      refine cnd (fun hc25 hr=>?_) (fun hc25 hr=>?_)
      ·refine rg<|V vm<|V vnp<|V vfp<|V vlp<|V vm<|V vm<|?_
       refine V (zAn (t:=Y4) (undX 52 rfl) (szX 54 rfl) rfl rfl rfl e22)<|?_
       refine V (av_fa_ep (faX 54 1 rfl) rfl rfl)<|?_
       refine zAK (aop_store_ep (e':=(x21.1,p2,x21.2.2)) (szX 3 rfl) rfl rfl rfl rfl (zCM e22) rfl rfl rfl rfl rfl ?_)
       obtain rfl:=Option.some.inj hr
       exact zAJ (zAS ((zAA hX [0,1,2,3] 4 rfl rfl wS wO)))
      ·obtain rfl:=Option.some.inj hr
       exact zAv (zAS ((zAA hX [0,1,2,3] 4 rfl rfl wS wO)))
     ·rintro s18 rfl
      refine rg<|V vad<|V vm<|?_
      obtain rfl:=Option.some.inj hr
      exact zAJ ((zAA hX [0,1,2,3] 4 rfl rfl wS wO))
     ·exact fun r h e st hne hx=>hx.elim
    ·obtain rfl:=zA8 hc17 ho
     exact zAH (zAF (⟨rfl,(zAA hX [0,1,2,3] 4 rfl rfl wS wO)⟩))
theorem f67_runs {p0:Int}{p1:List (Int×Bool)×List (Int×Bool)×List (Int×Bool)}{r:Bool}(hr:f67 p0 p1=some r) : zBb Tryz.prog 67 [.i p0,.rp [.dm .i .bool p1.1,.dm .i .bool p1.2.1,.dm .i .bool p1.2.2]] [.bool r]:=by
 refine zAW Tryz.func67 Tryz.ntmps67 rfl (rs:=[.tmp 3]) rfl rfl fun w0 X hX=>?_
 refine sq<|rg<|V va<|nl<|an<|sq<|rg<|V vfr<|V vlr<|V vm<|?_
 refine V (zBA (kx:=p0) (r:=.bool ((mget p1.1 p0).getD false)) (undX 89 rfl) kt3 zw4 rfl rfl rfl rfl)<|V va<|?_
 obtain rfl:=Option.some.inj hr
 exact nl<|an<|cr<|zAk (l':=[(3,.bool ((mget p1.1 p0).getD false))]) (zAA hX [] 4 rfl rfl wS trivial) rfl ⟨rfl,trivial⟩
theorem f69_runs {p0:Int}{p1:Int×Str×List Int}{p2:List (Int×Bool)×List (Int×Bool)×List (Int×Bool)}{r:Bool}(hr:f69 p0 p1 p2=some r) : zBb Tryz.prog 69 [.i p0,.agg [.i p1.1,.str p1.2.1,.sl .i p1.2.2],.rp [.dm .i .bool p2.1,.dm .i .bool p2.2.1,.dm .i .bool p2.2.2]] [.bool r]:=by
 refine zAW Tryz.func69 Tryz.ntmps69 rfl (rs:=[.tmp 5]) rfl rfl fun w0 X hX=>?_
 refine sq<|rg<|O ob<|V va<|nl<|an<|sq<|rg<|V vfr<|V vlr<|V vm<|?_
 refine V (zBA (kx:=p0) (r:=.bool ((mget p2.2.1 p0).getD false)) (undX 89 rfl) kt3 zw4 rfl rfl rfl rfl)<|V va<|?_
 obtain rfl:=Option.some.inj hr
 exact nl<|an<|cr<|zAk (l':=[(5,.bool ((mget p2.2.1 p0).getD false))]) (zAA hX [] 4 rfl rfl wS trivial) rfl ⟨rfl,trivial⟩
theorem f68_runs {p0_0:List (Int×(Int×Str×List Int))}{q1:Int→(Int×Str×List Int)→Option Bool}{r:(List (Int×(Int×Str×List Int)))}{g1:FuncId}{c1s:List AV}(h_q1:∀ (y1:Int) (y2:Int×Str×List Int) (r:Bool),q1 y1 y2=some r→zBb Tryz.prog g1 ([.i y1,.agg [.i y2.1,.str y2.2.1,.sl .i y2.2.2]]++c1s) [.bool r]) (k_q1:FnIn Tryz.prog g1 c1s) (hr:f68 p0_0 q1=some r) : Runs Tryz.prog 68 [.map 0,.clo (.fn g1 [] c1s)] [.map .i Y5 p0_0] (fun q Hq=>q=[]∧Hq=[.map .i Y5 r]):=by
 refine zAW Tryz.func68 Tryz.ntmps68 rfl (rs:=[]) rfl rfl fun w0 X hX=>?_
 refine sq<|rg<|V vm<|?_
 refine zAK (zCW (undX 74 rfl) rfl rfl (fun xs2 hp3=>?_))
 obtain ⟨o8,e9,hr⟩:=zA hr
 refine nl<|an<|bl<|?_
 refine awc_ndR (i:=0) rfl rfl (fun hn17=>?_)
 refine zCi (S:=(List (Int×(Int×Str×List Int)))) (R:=Unit) (f68_m0 q1) (fun p=>match p with | (l4,c5,s6)=>(⟨[(0,.map 0),(1,.clo (.fn g1 [] c1s)),(7,.map 1)],[(0,.mapr .i Y5 s6 l4 c5 1),(1,.dead)],2⟩ : AS)) (fun o e st=>match o with | .inr _=>False | .inl s6=>e=.exit 0∧Wk X st ⟨[],[(0,.map .i Y5 s6)],1⟩) (K:=fun r=>f68_m0_q r o8) (f68_m0_o hn17 e9) hp3 (by exact zAA hX [0,1] 4 rfl rfl wS wO) ?_ ?_
 ·intro r hq e st hx
  rcases o8 with s6 | o8
  ·rcases r with s6z | r
   ·have hq : s6z.Perm s6:=hq
    obtain ⟨rfl,hw⟩:=hx
    obtain rfl:=Option.some.inj hr
    exact zAl (zCz (zAe (l':=[]) (Hs:=[(0,.map .i Y5 s6)]) (n:=1) (Wk.trans (Wk.trans hw (wk_perm (i:=0) rfl rfl hq)) (zAA hX [0] 4 rfl rfl trivial wO)) rfl rfl rfl trivial))
   ·exact hq.elim
  ·rcases r with r | r
   ·exact hq.elim
   exact hx.elim
 ·rintro l4 c5 s6 K' hr
  refine sq<|rg<|?_
  refine zAK (zCr (i:=0) rfl rfl rfl (fun h13=>?_) (fun q10 p11 hq12=>?_))
  ·have hk:=hr.1 h13
   refine V vx<|?_
   exact zAJ (zAZ (awc_seq (zA3 rfl (zAH (zAF (⟨_,hk,rfl,(Wk.trans (wk_endr (i:=0) rfl rfl) (zAA hX [0] 4 rfl rfl trivial wO))⟩))))))
  ·obtain ⟨o,hr,hk⟩:=hr.2 q10 p11 hq12
   obtain ⟨x14,e15,hr⟩:=zA hr
   refine V vx<|nl<|an<|sq<|?_
   refine zCZ rfl<|sk<|an<|bl<|sq<|rg<|V (zCq (i:=0) rfl rfl rfl rfl)<|V vx<|V vx<|O oa<|V va<|O os<|nl<|an<|sq<|rg<|V vm<|V vm<|V vlP<|?_
   refine V (av_callq rfl (h_q1 p11.1 p11.2 x14 e15).x k_q1 rfl rfl rfl)<|nl<|an<|?_
   refine cnd (fun hc16 hr=>?_) (fun hc16 hr=>?_)
   ·refine rg<|V vm<|V vm<|?_
    refine zAK (aop_mapDelR rfl rfl rfl (undX 74 rfl) kt3 rfl rfl rfl rfl ?_)
    obtain rfl:=Option.some.inj hr
    exact zAJ (zAS (⟨_,hk none,(zAA hX [0,1] 4 rfl rfl wS wO)⟩))
   ·obtain rfl:=Option.some.inj hr
    exact zAv (zAS (⟨_,hk (some p11),(zAA hX [0,1] 4 rfl rfl wS wO)⟩))
theorem f71_runs {p0:Int}{p1:Int×Int×Str}{p2:List (Int×Bool)×List (Int×Bool)×List (Int×Bool)}{r:Bool}(hr:f71 p0 p1 p2=some r) : zBb Tryz.prog 71 [.i p0,.agg [.i p1.1,.i p1.2.1,.str p1.2.2],.rp [.dm .i .bool p2.1,.dm .i .bool p2.2.1,.dm .i .bool p2.2.2]] [.bool r]:=by
 refine zAW Tryz.func71 Tryz.ntmps71 rfl (rs:=[.tmp 5]) rfl rfl fun w0 X hX=>?_
 refine sq<|rg<|O ob<|V va<|nl<|an<|sq<|rg<|V vfr<|V vlr<|V vm<|?_
 refine V (zBA (kx:=p0) (r:=.bool ((mget p2.1 p0).getD false)) (undX 89 rfl) kt3 zw4 rfl rfl rfl rfl)<|V va<|?_
 obtain rfl:=Option.some.inj hr
 exact nl<|an<|cr<|zAk (l':=[(5,.bool ((mget p2.1 p0).getD false))]) (zAA hX [] 4 rfl rfl wS trivial) rfl ⟨rfl,trivial⟩
theorem f70_runs {p0_0:List (Int×(Int×Int×Str))}{q1:Int→(Int×Int×Str)→Option Bool}{r:(List (Int×(Int×Int×Str)))}{g1:FuncId}{c1s:List AV}(h_q1:∀ (y1:Int) (y2:Int×Int×Str) (r:Bool),q1 y1 y2=some r→zBb Tryz.prog g1 ([.i y1,.agg [.i y2.1,.i y2.2.1,.str y2.2.2]]++c1s) [.bool r]) (k_q1:FnIn Tryz.prog g1 c1s) (hr:f70 p0_0 q1=some r) : Runs Tryz.prog 70 [.map 0,.clo (.fn g1 [] c1s)] [.map .i Y4 p0_0] (fun q Hq=>q=[]∧Hq=[.map .i Y4 r]):=by
 refine zAW Tryz.func70 Tryz.ntmps70 rfl (rs:=[]) rfl rfl fun w0 X hX=>?_
 refine sq<|rg<|V vm<|?_
 refine zAK (zCW (undX 73 rfl) rfl rfl (fun xs2 hp3=>?_))
 obtain ⟨o8,e9,hr⟩:=zA hr
 refine nl<|an<|bl<|?_
 refine awc_ndR (i:=0) rfl rfl (fun hn17=>?_)
 refine zCi (S:=(List (Int×(Int×Int×Str)))) (R:=Unit) (f70_m0 q1) (fun p=>match p with | (l4,c5,s6)=>(⟨[(0,.map 0),(1,.clo (.fn g1 [] c1s)),(7,.map 1)],[(0,.mapr .i Y4 s6 l4 c5 1),(1,.dead)],2⟩ : AS)) (fun o e st=>match o with | .inr _=>False | .inl s6=>e=.exit 0∧Wk X st ⟨[],[(0,.map .i Y4 s6)],1⟩) (K:=fun r=>f70_m0_q r o8) (f70_m0_o hn17 e9) hp3 (by exact zAA hX [0,1] 4 rfl rfl wS wO) ?_ ?_
 ·intro r hq e st hx
  rcases o8 with s6 | o8
  ·rcases r with s6z | r
   ·have hq : s6z.Perm s6:=hq
    obtain ⟨rfl,hw⟩:=hx
    obtain rfl:=Option.some.inj hr
    exact zAl (zCz (zAe (l':=[]) (Hs:=[(0,.map .i Y4 s6)]) (n:=1) (Wk.trans (Wk.trans hw (wk_perm (i:=0) rfl rfl hq)) (zAA hX [0] 4 rfl rfl trivial wO)) rfl rfl rfl trivial))
   ·exact hq.elim
  ·rcases r with r | r
   ·exact hq.elim
   exact hx.elim
 ·rintro l4 c5 s6 K' hr
  refine sq<|rg<|?_
  refine zAK (zCr (i:=0) rfl rfl rfl (fun h13=>?_) (fun q10 p11 hq12=>?_))
  ·have hk:=hr.1 h13
   refine V vx<|?_
   exact zAJ (zAZ (awc_seq (zA3 rfl (zAH (zAF (⟨_,hk,rfl,(Wk.trans (wk_endr (i:=0) rfl rfl) (zAA hX [0] 4 rfl rfl trivial wO))⟩))))))
  ·obtain ⟨o,hr,hk⟩:=hr.2 q10 p11 hq12
   obtain ⟨x14,e15,hr⟩:=zA hr
   refine V vx<|nl<|an<|sq<|?_
   refine zCZ rfl<|sk<|an<|bl<|sq<|rg<|V (zCq (i:=0) rfl rfl rfl rfl)<|V vx<|V vx<|O oa<|V va<|O os<|nl<|an<|sq<|rg<|V vm<|V vm<|V vlP<|?_
   refine V (av_callq rfl (h_q1 p11.1 p11.2 x14 e15).x k_q1 rfl rfl rfl)<|nl<|an<|?_
   refine cnd (fun hc16 hr=>?_) (fun hc16 hr=>?_)
   ·refine rg<|V vm<|V vm<|?_
    refine zAK (aop_mapDelR rfl rfl rfl (undX 73 rfl) kt3 rfl rfl rfl rfl ?_)
    obtain rfl:=Option.some.inj hr
    exact zAJ (zAS (⟨_,hk none,(zAA hX [0,1] 4 rfl rfl wS wO)⟩))
   ·obtain rfl:=Option.some.inj hr
    exact zAv (zAS (⟨_,hk (some p11),(zAA hX [0,1] 4 rfl rfl wS wO)⟩))
theorem ent67 : Enters Tryz.prog 67:=enters_of Tryz.func67 (by kernel_rfl) rfl
theorem ent69 : Enters Tryz.prog 69:=enters_of Tryz.func69 (by kernel_rfl) rfl
theorem ent68 : Enters Tryz.prog 68:=enters_of Tryz.func68 (by kernel_rfl) rfl
theorem ent71 : Enters Tryz.prog 71:=enters_of Tryz.func71 (by kernel_rfl) rfl
theorem ent70 : Enters Tryz.prog 70:=enters_of Tryz.func70 (by kernel_rfl) rfl
theorem ent92 : Enters Tryz.prog 92:=enters_of Tryz.func92 (by kernel_rfl) rfl
theorem ent93 : Enters Tryz.prog 93:=enters_of Tryz.func93 (by kernel_rfl) rfl
theorem ent32 : Enters Tryz.prog 32:=enters_of Tryz.func32 (by kernel_rfl) rfl
theorem ent33 : Enters Tryz.prog 33:=enters_of Tryz.func33 (by kernel_rfl) rfl
theorem ent34 : Enters Tryz.prog 34:=enters_of Tryz.func34 (by kernel_rfl) rfl
theorem ent17 : Enters Tryz.prog 17:=enters_of Tryz.func17 (by kernel_rfl) rfl
theorem eq54 {a0 b0:Int}{a1 b1:Int}{a2 b2:ByteArray} : EqT Tryz.prog 54 [.int .i64 a0,.int .i64 a1,.string a2] [.int .i64 b0,.int .i64 b1,.string b2]:=⟨by kernel_rfl,fun w=>run_eqFlat (fs:=(Tryz.prog.fieldsOf 54).toList) (by kernel_rfl) (by kernel_rfl) (by kernel_rfl) (by kernel_rfl)⟩
theorem ent14 : Enters Tryz.prog 14:=enters_of Tryz.func14 (by kernel_rfl) rfl
theorem ent21 : Enters Tryz.prog 21:=enters_of Tryz.func21 (by kernel_rfl) rfl
theorem ent19 : Enters Tryz.prog 19:=enters_of Tryz.func19 (by kernel_rfl) rfl
theorem ent37 : Enters Tryz.prog 37:=enters_of Tryz.func37 (by kernel_rfl) rfl
theorem ent38 : Enters Tryz.prog 38:=enters_of Tryz.func38 (by kernel_rfl) rfl
theorem ent39 : Enters Tryz.prog 39:=enters_of Tryz.func39 (by kernel_rfl) rfl
theorem ent12 : Enters Tryz.prog 12:=enters_of Tryz.func12 (by kernel_rfl) rfl
theorem ent40 : Enters Tryz.prog 40:=enters_of Tryz.func40 (by kernel_rfl) rfl
theorem ent41 : Enters Tryz.prog 41:=enters_of Tryz.func41 (by kernel_rfl) rfl
theorem ent42 : Enters Tryz.prog 42:=enters_of Tryz.func42 (by kernel_rfl) rfl
theorem ent43 : Enters Tryz.prog 43:=enters_of Tryz.func43 (by kernel_rfl) rfl
theorem ent44 : Enters Tryz.prog 44:=enters_of Tryz.func44 (by kernel_rfl) rfl
theorem ent20 : Enters Tryz.prog 20:=enters_of Tryz.func20 (by kernel_rfl) rfl
theorem ent45 : Enters Tryz.prog 45:=enters_of Tryz.func45 (by kernel_rfl) rfl
theorem ent46 : Enters Tryz.prog 46:=enters_of Tryz.func46 (by kernel_rfl) rfl
theorem ent47 : Enters Tryz.prog 47:=enters_of Tryz.func47 (by kernel_rfl) rfl
theorem ent48 : Enters Tryz.prog 48:=enters_of Tryz.func48 (by kernel_rfl) rfl
theorem f20_runs {p0_0:ZW}{p1:Int}{r:List Int×List Int×Int×(ZW)}(hr:f20 p0_0 p1=some r) : Runs Tryz.prog 20 [.ptr 0 0,.i p1] [.tr E76 (some p0_0)] (fun q Hq=>q=[.sl .i r.1,.sl .i r.2.1,.i r.2.2.1]∧Hq=[.tr E76 (some r.2.2.2)]):=by
 refine zAW Tryz.func20 Tryz.ntmps20 rfl (rs:=[.tmp 4,.tmp 5,.tmp 6]) rfl rfl fun w0 X hX=>?_
 obtain ⟨x2,e3,hr⟩:=zA hr
 refine sq<|rg<|V va<|V va<|V va<|nl<|an<|sq<|sq<|rg<|V vm<|V vm<|?_
 refine V (zAM (t:=.i) (qs:=[(0,[.i p1])]) (ys:=[p1]) bs33 rfl rfl rfl rfl rfl rfl rfl rfl)<|?_
 refine zAG (zAd (i:=0) (W76 p0_0 1 2) [.map .i Y4 p0_0.2.1,.map .i Y5 p0_0.2.2.1] rfl rfl rfl rfl)<|V (zAj (as':=[.ptr 0 0,.sl .i [p1]]) (f57_runs e3).x ent57 rfl ⟨cv0,cv0,trivial⟩ rfl rfl)<|V va<|nl<|an<|sq<|rg<|V vm<|V vne<|nl<|an<|?_
 refine cnd (fun hc4 hr=>?_) (fun hc4 hr=>?_)
 ·refine sq<|rg<|V vm<|V va<|V va<|V va<|?_
  obtain rfl:=Option.some.inj hr
  exact nl<|an<|cr<|zAC (zAe (l':=[(4,.sl .i ([] : List Int)),(5,.sl .i ([] : List Int)),(6,.i x2)]) (Hs:=[(0,.tr E76 (some p0_0))]) (n:=1) (Wk.trans (zAT (i:=0) (T:=76) (e:=F76) (js:=[1,2]) p0_0 rfl (⟨[.sl Y2 p0_0.1],[.map 1,.map 2,.i p0_0.2.2.2.1,.i p0_0.2.2.2.2],[],[1,2],rfl,rfl,⟨rfl,rfl,rfl⟩,⟨[.map 1],[.map 2,.i p0_0.2.2.2.1,.i p0_0.2.2.2.2],[1],[2],rfl,rfl,⟨1,rfl,rfl,rfl⟩,⟨[.map 2],[.i p0_0.2.2.2.1,.i p0_0.2.2.2.2],[2],[],rfl,rfl,⟨2,rfl,rfl,rfl⟩,⟨[.i p0_0.2.2.2.1],[.i p0_0.2.2.2.2],[],[],rfl,rfl,⟨rfl,rfl,rfl⟩,⟨rfl,rfl,rfl⟩⟩⟩⟩⟩) rfl) (zAA hX [0] 4 rfl rfl ⟨⟨_,rfl,cv2⟩,⟨_,rfl,cv2⟩,⟨_,rfl,cv0⟩,trivial⟩ wO)) rfl rfl rfl ⟨rfl,rfl,rfl,trivial⟩)
 ·obtain ⟨x5,e6,hr⟩:=zA hr
  refine sk<|an<|sq<|rg<|V vm<|V vm<|?_
  refine zAK (zAp (as':=[.ptr 0 0,.i p1,.i 3]) (f51_runs e6).x ent51 rfl ⟨cv0,cv0,cv0,trivial⟩ rfl rfl rfl ?_)
  refine O oa<|O os<|nl<|an<|sq<|sq<|rg<|V vm<|V vnp<|V vfp<|V vlp<|?_
  refine zAK (zCW (undX 74 rfl) rfl rfl (fun xs7 hp8=>?_))
  obtain ⟨o13,e14,hr⟩:=zA hr
  refine nl<|an<|bl<|?_
  refine awc_nd (i:=4) rfl rfl (fun hn30=>?_)
  refine zCi (S:=(List (Int×Bool))) (R:=Unit) (f20_m0 x5) (fun p=>match p with | (l9,c10,s11)=>(⟨[(0,.ptr 0 0),(4,.nils),(5,.nils),(6,.i 0),(8,.ptr 1 0),(25,.map 2)],[(0,.var 76 (W76 p0_0 3 4)),(1,.var 91 [.map 5,.map 6,.map 7]),(2,.dead),(3,.map .i Y4 p0_0.2.1),(4,.mapr .i Y5 p0_0.2.2.1 l9 c10 2),(5,.map .i .bool x5.1),(6,.map .i .bool s11),(7,.map .i .bool x5.2.2)],8⟩ : AS)) (fun o e st=>match o with | .inr _=>False | .inl s11=>e=.exit 0∧Wk X st ⟨[(0,.ptr 0 0),(4,.nils),(5,.nils),(6,.i 0),(8,.ptr 1 0)],[(0,.var 76 (W76 p0_0 2 3)),(1,.var 91 [.map 4,.map 5,.map 6]),(2,.map .i Y4 p0_0.2.1),(3,.map .i Y5 p0_0.2.2.1),(4,.map .i .bool x5.1),(5,.map .i .bool s11),(6,.map .i .bool x5.2.2)],7⟩) (K:=fun r=>f20_m0_q r o13) (f20_m0_o hn30 e14) hp8 (by exact zAA hX [0,6,7,1,2,3,4,5] 4 rfl rfl wS wO) ?_ ?_
  ·intro r hq e st hx
   rcases o13 with s11 | o13
   ·rcases r with s11z | r
    ·have hq : s11z.Perm s11:=hq
     obtain ⟨rfl,hw⟩:=hx
     obtain ⟨x15,e16,hr⟩:=zA hr
     refine bh<|an<|(zAY (Wk.trans hw (wk_perm (i:=5) rfl rfl hq)))<|sq<|rg<|V vm<|V vnp<|V vfp<|V vlp<|?_
     refine V (zA4 (us:=[]) (vs:=[.ptr 1 0]) rfl rfl)<|?_
     refine zAG (zAA (st':=⟨[(0,.ptr 0 0),(4,.nils),(5,.nils),(6,.i 0),(8,.rp [.dm .i .bool x5.1,.dm .i .bool s11,.dm .i .bool x5.2.2]),(38,.ptr 0 0),(39,.ptr 0 0),(40,.ptr 0 2),(41,.map 2),(42,.fn 69 [] [.rp [.dm .i .bool x5.1,.dm .i .bool s11,.dm .i .bool x5.2.2]])],[(0,.var 76 (W76 p0_0 1 2)),(1,.map .i Y4 p0_0.2.1),(2,.map .i Y5 p0_0.2.2.1)],3⟩) hX [0,2,3] 4 rfl rfl wS wO)<|?_
     refine zAK (zAP (σ:=[2]) (as':=[.map 2,.fn 69 [] [.rp [.dm .i .bool x5.1,.dm .i .bool s11,.dm .i .bool x5.2.2]]]) (f68_runs (q1:=(fun y1 y2=>f69 y1 y2 (x5.1,s11,x5.2.2))) (g1:=69) (c1s:=[.rp [.dm .i .bool x5.1,.dm .i .bool s11,.dm .i .bool x5.2.2]]) (fun _ _ r h=>(have h2:=f69_runs h; h2)) ⟨ent69⟩ e16).x ent68 rfl ⟨cv0,(cv3 rfl),trivial⟩ rfl rfl rfl ?_)
     obtain ⟨x17,e18,hr⟩:=zA hr
     refine nl<|an<|sq<|rg<|V vm<|V vnp<|V vfp<|V vlp<|?_
     refine V (zA4 (us:=[]) (vs:=[.rp [.dm .i .bool x5.1,.dm .i .bool s11,.dm .i .bool x5.2.2]]) rfl rfl)<|?_
     refine zAK (zAP (σ:=[1]) (as':=[.map 1,.fn 71 [] [.rp [.dm .i .bool x5.1,.dm .i .bool s11,.dm .i .bool x5.2.2]]]) (f70_runs (q1:=(fun y1 y2=>f71 y1 y2 (x5.1,s11,x5.2.2))) (g1:=71) (c1s:=[.rp [.dm .i .bool x5.1,.dm .i .bool s11,.dm .i .bool x5.2.2]]) (fun _ _ r h=>(have h2:=f71_runs h; h2)) ⟨ent71⟩ e18).x ent70 rfl ⟨cv0,(cv3 rfl),trivial⟩ rfl rfl rfl ?_)
     obtain ⟨x19,e20,hr⟩:=zA hr
     obtain ⟨x21,e22,hr⟩:=zA hr
     refine nl<|an<|sq<|?_
     refine zBE mixed [8] [(true,.rp [.dm .i .bool x5.1,.dm .i .bool s11,.dm .i .bool x5.2.2]),(true,.dm .i .bool x5.1),(true,.sl .i x19),(true,.rp [.dm .i .bool s11,.dm .i .bool x5.2.2]),(true,.dm .i .bool s11),(true,.sl .i x21),(true,.sl .i x19),(true,.sl .i x21),(true,.i 0)] [[],[0],[1],[],[3],[4],[2],[5],[]] [6,7,8] rfl rfl rfl rfl rfl ⟨?_,?_,?_,?_,?_,?_,?_,?_,?_,trivial⟩ (zAD ⟨rfl,rfl,rfl,trivial⟩) ?_
     ·exact oB wfr
     ·exact oB wlr
     ·exact zAr rfl (fun hg=>zAD ⟨rfl,trivial⟩) (fun hg=>zBD (as':=[.dm .i .bool x5.1]) (Hs:=[.sl 3 .i x19]) (zCU e20).x ent52 rfl ⟨cv0,trivial⟩ rfl rfl rfl)
     ·exact oB wfr
     ·exact oB wlr
     ·exact zAr rfl (fun hg=>zAD ⟨rfl,trivial⟩) (fun hg=>zBD (as':=[.dm .i .bool s11]) (Hs:=[.sl 3 .i x21]) (zCU e22).x ent52 rfl ⟨cv0,trivial⟩ rfl rfl rfl)
     ·exact oB wa
     ·exact oB wa
     ·exact oB wa
     obtain rfl:=Option.some.inj hr
     exact zAZ (zAw (zAe (l':=[(4,.sl .i x19),(5,.sl .i x21),(6,.i 0)]) (Hs:=[(0,.tr E76 (some (p0_0.1,x17,x15,p0_0.2.2.2.1,p0_0.2.2.2.2)))]) (n:=1) (Wk.trans (zAT (i:=0) (T:=76) (e:=F76) (js:=[1,2]) (p0_0.1,x17,x15,p0_0.2.2.2.1,p0_0.2.2.2.2) rfl (⟨[.sl Y2 p0_0.1],[.map 1,.map 2,.i p0_0.2.2.2.1,.i p0_0.2.2.2.2],[],[1,2],rfl,rfl,⟨rfl,rfl,rfl⟩,⟨[.map 1],[.map 2,.i p0_0.2.2.2.1,.i p0_0.2.2.2.2],[1],[2],rfl,rfl,⟨1,rfl,rfl,rfl⟩,⟨[.map 2],[.i p0_0.2.2.2.1,.i p0_0.2.2.2.2],[2],[],rfl,rfl,⟨2,rfl,rfl,rfl⟩,⟨[.i p0_0.2.2.2.1],[.i p0_0.2.2.2.2],[],[],rfl,rfl,⟨rfl,rfl,rfl⟩,⟨rfl,rfl,rfl⟩⟩⟩⟩⟩) rfl) (zAA hX [0] 4 rfl rfl wS wO)) rfl rfl rfl ⟨rfl,rfl,rfl,trivial⟩))
    ·exact hq.elim
   ·rcases r with r | r
    ·exact hq.elim
    exact hx.elim
  ·rintro l9 c10 s11 K' hr
   refine sq<|rg<|?_
   refine zAK (zCr (i:=4) rfl rfl rfl (fun h26=>?_) (fun q23 p24 hq25=>?_))
   ·have hk:=hr.1 h26
    refine V vx<|?_
    exact zAJ (zAZ (awc_seq (zA3 rfl (zAH (zAF (⟨_,hk,rfl,(Wk.trans (wk_endr (i:=4) rfl rfl) (zAA hX [0,1,3,4,5,6,7] 4 rfl rfl wS wO))⟩))))))
   ·obtain ⟨o,hr,hk⟩:=hr.2 q23 p24 hq25
    obtain ⟨x27,e28,hr⟩:=zA hr
    refine V vx<|nl<|an<|sq<|?_
    refine zCZ rfl<|sk<|an<|bl<|sq<|rg<|V (zCq (i:=4) rfl rfl rfl rfl)<|V vx<|V vx<|O oa<|V va<|O os<|nl<|an<|sq<|rg<|V vfp<|V vlp<|?_
    refine V (zA4 (us:=[]) (vs:=[.ptr 1 0]) rfl rfl)<|?_
    refine V (zAj (as':=[.sl .i p24.2.2.2,.fn 67 [] [.ptr 1 0]]) (f66_runs (q1:=(fun y1=>f67 y1 (x5.1,s11,x5.2.2))) (g1:=67) (c1s:=[.rp [.dm .i .bool x5.1,.dm .i .bool s11,.dm .i .bool x5.2.2]]) (fun _ r h=>(have h2:=f67_runs h; h2)) ⟨ent67⟩ e28).x ent66 rfl ⟨cv0,(cv3 rfl),trivial⟩ rfl rfl)<|nl<|an<|?_
    refine cnd (fun hc29 hr=>?_) (fun hc29 hr=>?_)
    ·refine rg<|V vfp<|V vlp<|V vm<|?_
     refine zAK (zB (kx:=p24.1) (vx:=true) (undX 89 rfl) kt3 (.inl rfl) rfl rfl rfl rfl rfl rfl rfl ?_)
     obtain rfl:=Option.some.inj hr
     exact zAJ (zAS (⟨_,hk (some p24),(zAA hX [0,1,2,3,4,5,6,7] 4 rfl rfl wS wO)⟩))
    ·obtain rfl:=Option.some.inj hr
     exact zAv (zAS (⟨_,hk (some p24),(zAA hX [0,1,2,3,4,5,6,7] 4 rfl rfl wS wO)⟩))
theorem f45_runs {p0_0:ZR}{p1:Int}{r:List Int×List Int×Int×(ZR)}(hr:f45 p0_0 p1=some r) : Runs Tryz.prog 45 [.ptr 0 0,.i p1] [.tr E80 (some p0_0)] (fun q Hq=>q=[.sl .i r.1,.sl .i r.2.1,.i r.2.2.1]∧Hq=[.tr E80 (some r.2.2.2)]):=by
 refine zAW Tryz.func45 Tryz.ntmps45 rfl (rs:=[.tmp 4,.tmp 5,.tmp 6]) rfl rfl fun w0 X hX=>?_
 refine sq<|rg<|V va<|V va<|V va<|nl<|an<|sq<|sq<|rg<|V vm<|V vls<|nl<|an<|?_
 refine cnd (fun hc2 hr=>?_) (fun hc2 hr=>?_)
 ·refine sq<|rg<|V va<|V va<|V va<|?_
  obtain rfl:=Option.some.inj hr
  exact nl<|an<|cr<|zAC (zAe (l':=[(4,.sl .i ([] : List Int)),(5,.sl .i ([] : List Int)),(6,.i 7)]) (Hs:=[(0,.tr E80 (some p0_0))]) (n:=1) (zAA hX [0] 4 rfl rfl ⟨⟨_,rfl,cv2⟩,⟨_,rfl,cv2⟩,⟨_,rfl,cv0⟩,trivial⟩ wO) rfl rfl rfl ⟨rfl,rfl,rfl,trivial⟩)
 ·obtain ⟨x3,e4,hr⟩:=zA hr
  refine sk<|an<|sq<|sq<|rg<|V vm<|V vm<|?_
  refine zAG (zAd (i:=0) [.sl Y2 p0_0.1,.osl 1,.osl 2,.i p0_0.2.2.2.1,.i p0_0.2.2.2.2] [.sl 54 Y4 p0_0.2.1,.sl 42 Y5 p0_0.2.2.1] rfl rfl rfl rfl)<|V (zAj (as':=[.ptr 0 0,.i p1]) (f82_runs e4).x ent82 rfl ⟨cv0,cv0,trivial⟩ rfl rfl)<|V vno<|nl<|an<|?_
  refine cnd (fun hc5 hr=>?_) (fun hc5 hr=>?_)
  ·refine sq<|rg<|V va<|V va<|V va<|?_
   obtain rfl:=Option.some.inj hr
   exact nl<|an<|cr<|zAC (zAe (l':=[(4,.sl .i ([] : List Int)),(5,.sl .i ([] : List Int)),(6,.i 8)]) (Hs:=[(0,.tr E80 (some p0_0))]) (n:=1) (Wk.trans (zAT (i:=0) (T:=80) (e:=F80) (js:=[1,2]) p0_0 rfl (⟨[.sl Y2 p0_0.1],[.osl 1,.osl 2,.i p0_0.2.2.2.1,.i p0_0.2.2.2.2],[],[1,2],rfl,rfl,⟨rfl,rfl,rfl⟩,⟨[.osl 1],[.osl 2,.i p0_0.2.2.2.1,.i p0_0.2.2.2.2],[1],[2],rfl,rfl,.inl ⟨1,rfl,rfl,rfl⟩,⟨[.osl 2],[.i p0_0.2.2.2.1,.i p0_0.2.2.2.2],[2],[],rfl,rfl,.inl ⟨2,rfl,rfl,rfl⟩,⟨[.i p0_0.2.2.2.1],[.i p0_0.2.2.2.2],[],[],rfl,rfl,⟨rfl,rfl,rfl⟩,⟨rfl,rfl,rfl⟩⟩⟩⟩⟩) rfl) (zAA hX [0] 4 rfl rfl ⟨⟨_,rfl,cv2⟩,⟨_,rfl,cv2⟩,⟨_,rfl,cv0⟩,trivial⟩ wO)) rfl rfl rfl ⟨rfl,rfl,rfl,trivial⟩)
  ·obtain ⟨x6,e7,hr⟩:=zA hr
   refine sk<|an<|sq<|rg<|V vm<|V vm<|?_
   refine zAK (zAp (as':=[.ptr 0 0,.i p1,.i 3]) (f90_runs e7).x ent90 rfl ⟨cv0,cv0,cv0,trivial⟩ rfl rfl rfl ?_)
   obtain ⟨o13,e14,hr⟩:=zA hr
   refine V vm<|V vx<|V vx<|V vx<|V va<|V va<|V va<|nl<|an<|sq<|rg<|V va<|nl<|an<|sq<|sq<|rg<|V vm<|V vnp<|V vfp<|V vlp<|V vnL<|V vm<|nl<|an<|bl<|?_
   refine zA5 (i:=2) rfl rfl (fun hl=>?_)
   refine zAI (List.length p0_0.2.2.1 : Int) (f45_b0 p0_0 x6) (fun p=>match p with | (i8,s10)=>(⟨[(0,.ptr 0 0),(4,.nils),(5,.nils),(6,.i 0),(7,.osl 1),(8,.osl 2),(10,.osl 3),(35,.osl 4),(36,.i (List.length p0_0.2.2.1 : Int)),(37,.i i8)],[(0,.var 80 [.sl Y2 p0_0.1,.osl 5,.osl 4,.i p0_0.2.2.2.1,.i p0_0.2.2.2.2]),(1,.sl 3 .i x6.1),(2,.sl 3 .i x6.2.1),(3,.sl 3 .i s10),(4,.sl 42 Y5 p0_0.2.2.1),(5,.sl 54 Y4 p0_0.2.1)],6⟩ : AS)) (fun o e st=>match o with | .inr _=>False | .inl s10=>e=.exit 0∧Wk X st ⟨[(0,.ptr 0 0),(4,.nils),(5,.nils),(6,.i 0),(7,.osl 1),(10,.osl 2)],[(0,.var 80 [.sl Y2 p0_0.1,.osl 4,.osl 3,.i p0_0.2.2.2.1,.i p0_0.2.2.2.2]),(1,.sl 3 .i x6.1),(2,.sl 3 .i s10),(3,.sl 42 Y5 p0_0.2.2.1),(4,.sl 54 Y4 p0_0.2.1)],5⟩) (zAf hl) e14 (Wk.trans (zAt (t:=10) 3 .i rfl) (by exact zAA hX [0,3,4,6,2,1] 4 rfl rfl wS wO)) ?_ ?_
   ·intro e st hx
    rcases o13 with s10 | _
    ·obtain ⟨rfl,hw⟩:=hx
     obtain ⟨x15,e16,hr⟩:=zA hr
     refine bh<|an<|(zAY hw)<|sq<|rg<|V vm<|V vm<|?_
     refine zAG (wk_frz [10,67] 2 rfl rfl rfl)<|zAG (zAT (i:=0) (T:=80) (e:=F80) (js:=[4,3]) p0_0 rfl (⟨[.sl Y2 p0_0.1],[.osl 4,.osl 3,.i p0_0.2.2.2.1,.i p0_0.2.2.2.2],[],[4,3],rfl,rfl,⟨rfl,rfl,rfl⟩,⟨[.osl 4],[.osl 3,.i p0_0.2.2.2.1,.i p0_0.2.2.2.2],[4],[3],rfl,rfl,.inl ⟨4,rfl,rfl,rfl⟩,⟨[.osl 3],[.i p0_0.2.2.2.1,.i p0_0.2.2.2.2],[3],[],rfl,rfl,.inl ⟨3,rfl,rfl,rfl⟩,⟨[.i p0_0.2.2.2.1],[.i p0_0.2.2.2.2],[],[],rfl,rfl,⟨rfl,rfl,rfl⟩,⟨rfl,rfl,rfl⟩⟩⟩⟩⟩) rfl)<|?_
     refine zAK (zAP (σ:=[0]) (as':=[.ptr 0 0,.sl .i s10]) (f86_runs e16).x ent86 rfl ⟨cv0,cv0,trivial⟩ rfl rfl rfl ?_)
     obtain ⟨o22,e23,hr⟩:=zA hr
     refine nl<|an<|sq<|rg<|V va<|nl<|an<|sq<|sq<|rg<|V vm<|V vnp<|V vfp<|?_
     refine zAG (zAd (i:=0) [.sl Y2 x15.1,.osl 5,.osl 6,.i x15.2.2.2.1,.i x15.2.2.2.2] [.sl 54 Y4 x15.2.1,.sl 42 Y5 x15.2.2.1] rfl rfl rfl rfl)<|V vlp<|V vnL<|V vm<|nl<|an<|bl<|?_
     refine zA5 (i:=5) rfl rfl (fun hl=>?_)
     refine zAI (List.length x15.2.1 : Int) (f45_b1 x6 x15) (fun p=>match p with | (i17,s19)=>(⟨[(0,.ptr 0 0),(4,.nils),(5,.nils),(6,.i 0),(7,.osl 1),(10,.sl .i s10),(16,.osl 2),(72,.osl 3),(73,.i (List.length x15.2.1 : Int)),(74,.i i17)],[(0,.var 80 [.sl Y2 x15.1,.osl 3,.osl 4,.i x15.2.2.2.1,.i x15.2.2.2.2]),(1,.sl 3 .i x6.1),(2,.sl 54 Y4 s19),(3,.sl 54 Y4 x15.2.1),(4,.sl 42 Y5 x15.2.2.1)],5⟩ : AS)) (fun o e st=>match o with | .inr _=>False | .inl s19=>e=.exit 4∧Wk X st ⟨[(0,.ptr 0 0),(4,.nils),(5,.nils),(6,.i 0),(7,.osl 1),(10,.sl .i s10),(16,.osl 2)],[(0,.var 80 [.sl Y2 x15.1,.osl 3,.osl 4,.i x15.2.2.2.1,.i x15.2.2.2.2]),(1,.sl 3 .i x6.1),(2,.sl 54 Y4 s19),(3,.sl 54 Y4 x15.2.1),(4,.sl 42 Y5 x15.2.2.1)],5⟩) (zAf hl) e23 (Wk.trans (zAt (t:=16) 54 Y4 rfl) (by exact zAA hX [0,1,7,5,6] 4 rfl rfl wS wO)) ?_ ?_
     ·intro e st hx
      rcases o22 with s19 | _
      ·obtain ⟨rfl,hw⟩:=hx
       refine bh<|an<|(zAY hw)<|sq<|rg<|V vm<|V vm<|V vnp<|V vfp<|O os<|nl<|an<|sq<|rg<|V vm<|V vm<|V va<|V va<|V va<|?_
       obtain rfl:=Option.some.inj hr
       exact nl<|an<|cr<|zAe (l':=[(4,.sl .i x6.1),(5,.sl .i s10),(6,.i 0)]) (Hs:=[(0,.tr E80 (some (x15.1,s19,x15.2.2.1,x15.2.2.2.1,x15.2.2.2.2)))]) (n:=1) (Wk.trans (zAT (i:=0) (T:=80) (e:=F80) (js:=[2,4]) (x15.1,s19,x15.2.2.1,x15.2.2.2.1,x15.2.2.2.2) rfl (⟨[.sl Y2 x15.1],[.osl 2,.osl 4,.i x15.2.2.2.1,.i x15.2.2.2.2],[],[2,4],rfl,rfl,⟨rfl,rfl,rfl⟩,⟨[.osl 2],[.osl 4,.i x15.2.2.2.1,.i x15.2.2.2.2],[2],[4],rfl,rfl,.inl ⟨2,rfl,rfl,rfl⟩,⟨[.osl 4],[.i x15.2.2.2.1,.i x15.2.2.2.2],[4],[],rfl,rfl,.inl ⟨4,rfl,rfl,rfl⟩,⟨[.i x15.2.2.2.1],[.i x15.2.2.2.2],[],[],rfl,rfl,⟨rfl,rfl,rfl⟩,⟨rfl,rfl,rfl⟩⟩⟩⟩⟩) rfl) (zAA hX [0] 4 rfl rfl wS wO)) rfl rfl rfl ⟨rfl,rfl,rfl,trivial⟩
      ·exact hx.elim
     ·rintro i17 s19 o ho
      refine sq<|rg<|V vls<|nl<|an<|sq<|?_
      refine zAO (b:=decide (i17 < (List.length x15.2.1 : Int))) rfl (fun hc24=>?_) (fun hc24=>?_)
      ·obtain ⟨q,hr,rfl⟩:=zA7 hc24 ho
       obtain ⟨o26,e27,hr⟩:=zA hr
       refine sk<|an<|?_
       refine zAy (S:=(List (Int×Int×Str))) (R:=Unit) (fun s=>match s with | s25=>(⟨[(0,.ptr 0 0),(4,.nils),(5,.nils),(6,.i 0),(7,.osl 1),(10,.sl .i s10),(16,.osl 2),(72,.osl 3),(73,.i (List.length x15.2.1 : Int)),(74,.i i17)],[(0,.var 80 [.sl Y2 x15.1,.osl 3,.osl 4,.i x15.2.2.2.1,.i x15.2.2.2.2]),(1,.sl 3 .i x6.1),(2,.sl 54 Y4 s25),(3,.sl 54 Y4 x15.2.1),(4,.sl 42 Y5 x15.2.2.1)],5⟩ : AS)) (fun _ _ _=>False) e27 (fun hr=>?_) ?_ ?_
       ·obtain ⟨x28,e29,hr⟩:=zA hr
        obtain ⟨x30,e31,hr⟩:=zA hr
        refine bl<|sq<|rg<|V (zAn (t:=Y4) (undX 52 rfl) (szX 54 rfl) rfl rfl rfl e29)<|?_
        refine V (zB5 (tsX 54 rfl) rfl rfl rfl (zCM e29) rfl rfl)<|O oa<|O os<|nl<|an<|sq<|rg<|V vm<|V vfp<|V vlp<|?_
        refine V (zAj (as':=[.osl 1,.i x28.1]) (zBY e31).x zB9 rfl ⟨cv0,cv0,trivial⟩ rfl rfl)<|V vno<|nl<|an<|?_
        refine cnd (fun hc32 hr=>?_) (fun hc32 hr=>?_)
        ·refine rg<|V vm<|V vlP<|?_
         refine V (zAM (t:=Y4) (qs:=[(0,[.i x28.1,.i x28.2.1,.str x28.2.2])]) (ys:=[x28]) bs52 rfl rfl rfl rfl rfl rfl rfl rfl)<|?_
         obtain ⟨h33,hr⟩:=zAN hr
         refine zAK (zAh rfl rfl app52 rfl rfl rfl h33 rfl ?_)
         refine V va<|?_
         obtain rfl:=Option.some.inj hr
         exact zAJ (zAS ((zAA hX [0,1,6,3,4] 4 rfl rfl wS wO)))
        ·obtain rfl:=Option.some.inj hr
         exact zAv (zAS ((zAA hX [0,1,2,3,4] 4 rfl rfl wS wO)))
       ·rintro s25 rfl
        refine rg<|V vad<|V vm<|?_
        obtain rfl:=Option.some.inj hr
        exact zAJ ((zAA hX [0,1,2,3,4] 4 rfl rfl wS wO))
       ·exact fun r h e st hne hx=>hx.elim
      ·obtain rfl:=zA8 hc24 ho
       exact zAH (zAF (⟨rfl,(zAA hX [0,1,2,3,4] 4 rfl rfl wS wO)⟩))
    ·exact hx.elim
   ·rintro i8 s10 o ho
    refine sq<|rg<|V vls<|nl<|an<|sq<|?_
    refine zAO (b:=decide (i8 < (List.length p0_0.2.2.1 : Int))) rfl (fun hc34=>?_) (fun hc34=>?_)
    ·obtain ⟨q,hr,rfl⟩:=zA7 hc34 ho
     obtain ⟨o36,e37,hr⟩:=zA hr
     refine sk<|an<|?_
     refine zAy (S:=List Int) (R:=Unit) (fun s=>match s with | s35=>(⟨[(0,.ptr 0 0),(4,.nils),(5,.nils),(6,.i 0),(7,.osl 1),(8,.osl 2),(10,.osl 3),(35,.osl 4),(36,.i (List.length p0_0.2.2.1 : Int)),(37,.i i8)],[(0,.var 80 [.sl Y2 p0_0.1,.osl 5,.osl 4,.i p0_0.2.2.2.1,.i p0_0.2.2.2.2]),(1,.sl 3 .i x6.1),(2,.sl 3 .i x6.2.1),(3,.sl 3 .i s35),(4,.sl 42 Y5 p0_0.2.2.1),(5,.sl 54 Y4 p0_0.2.1)],6⟩ : AS)) (fun _ _ _=>False) e37 (fun hr=>?_) ?_ ?_
     ·obtain ⟨x38,e39,hr⟩:=zA hr
      obtain ⟨x40,e41,hr⟩:=zA hr
      obtain ⟨o47,e48,hr⟩:=zA hr
      refine bl<|sq<|rg<|V (zAn (t:=Y5) (undX 78 rfl) (szX 42 rfl) rfl rfl rfl e39)<|?_
      refine V (zB5 (tsX 42 rfl) rfl rfl rfl (zCM e39) rfl rfl)<|O oa<|O os<|nl<|an<|sq<|rg<|V vm<|V vfp<|V vlp<|?_
      refine V (zAj (as':=[.osl 2,.i x38.1]) (zBY e41).x zB9 rfl ⟨cv0,cv0,trivial⟩ rfl rfl)<|V va<|nl<|an<|sq<|sq<|rg<|V vfp<|V vlp<|V vnl<|V vm<|nl<|an<|bl<|?_
      refine zAb (t:=46) rfl (fun hl=>?_)
      refine zAI (List.length x38.2.2 : Int) (f45_b2 x6 x38) (fun p=>match p with | (i42,s43)=>(⟨[(0,.ptr 0 0),(4,.nils),(5,.nils),(6,.i 0),(7,.osl 1),(8,.osl 2),(10,.osl 3),(12,.ptr 4 0),(13,.bool s43),(35,.osl 5),(36,.i (List.length p0_0.2.2.1 : Int)),(37,.i i8),(46,.sl .i x38.2.2),(47,.i (List.length x38.2.2 : Int)),(48,.i i42)],[(0,.var 80 [.sl Y2 p0_0.1,.osl 6,.osl 5,.i p0_0.2.2.2.1,.i p0_0.2.2.2.2]),(1,.sl 3 .i x6.1),(2,.sl 3 .i x6.2.1),(3,.sl 3 .i s10),(4,.var 42 [.i x38.1,.str x38.2.1,.sl .i x38.2.2]),(5,.sl 42 Y5 p0_0.2.2.1),(6,.sl 54 Y4 p0_0.2.1)],7⟩ : AS)) (fun o e st=>match o with | .inr _=>False | .inl s43=>e=.exit 2∧Wk X st ⟨[(0,.ptr 0 0),(4,.nils),(5,.nils),(6,.i 0),(7,.osl 1),(8,.osl 2),(10,.osl 3),(12,.ptr 4 0),(13,.bool s43),(35,.osl 5),(36,.i (List.length p0_0.2.2.1 : Int)),(37,.i i8)],[(0,.var 80 [.sl Y2 p0_0.1,.osl 6,.osl 5,.i p0_0.2.2.2.1,.i p0_0.2.2.2.2]),(1,.sl 3 .i x6.1),(2,.sl 3 .i x6.2.1),(3,.sl 3 .i s10),(4,.var 42 [.i x38.1,.str x38.2.1,.sl .i x38.2.2]),(5,.sl 42 Y5 p0_0.2.2.1),(6,.sl 54 Y4 p0_0.2.1)],7⟩) (zAf hl) e48 (by exact zAA hX [0,1,2,3,6,4,5] 4 rfl rfl wS wO) ?_ ?_
      ·intro e st hx
       rcases o47 with s43 | _
       ·obtain ⟨rfl,hw⟩:=hx
        refine bh<|an<|(zAY hw)<|sq<|rg<|V vm<|nl<|an<|?_
        refine cnd (fun hc49 hr=>?_) (fun hc49 hr=>?_)
        ·refine rg<|V vm<|V vfp<|V vlp<|?_
         refine V (zAM (t:=.i) (qs:=[(0,[.i x38.1])]) (ys:=[x38.1]) bs33 rfl rfl rfl rfl rfl rfl rfl rfl)<|?_
         obtain ⟨h50,hr⟩:=zAN hr
         refine zAK (zAh rfl rfl zCt rfl rfl rfl h50 rfl ?_)
         refine V va<|?_
         obtain rfl:=Option.some.inj hr
         exact zAJ (zAS ((zAA hX [0,1,2,7,5,6] 4 rfl rfl wS wO)))
        ·obtain rfl:=Option.some.inj hr
         exact zAv (zAS ((zAA hX [0,1,2,3,5,6] 4 rfl rfl wS wO)))
       ·exact hx.elim
      ·rintro i42 s43 o ho
       refine sq<|rg<|V vls<|nl<|an<|sq<|?_
       refine zAO (b:=decide (i42 < (List.length x38.2.2 : Int))) rfl (fun hc51=>?_) (fun hc51=>?_)
       ·obtain ⟨q,hr,rfl⟩:=zA7 hc51 ho
        obtain ⟨x52,e53,hr⟩:=zA hr
        refine sk<|an<|sq<|bl<|sq<|rg<|V (zAQ (t:=.i) (e:=x52) (undX 33 rfl) (szX 3 rfl) rfl rfl e53)<|V vlr<|V va<|nl<|an<|?_
        obtain ⟨h54,hr⟩:=zAN hr
        refine zBy 6 [0,4,5,6,7,8,10,12,13,35,36,37,46,47,48,15] [(true,.bool s43),(true,.bool s43),(!s43,.osl 1),(!s43,.i x52),(!s43,.bool ((f15 x6.1 x52).getD default)),(true,.bool (s43||((f15 x6.1 x52).getD default)))] [[],[0],[1],[1],[2,3,1],[4,1]] [5] rfl rfl rfl rfl rfl rfl ⟨?_,?_,?_,?_,?_,?_,trivial⟩ (zAD ⟨rfl,trivial⟩) ?_
        ·exact oB wm
        ·exact oB wm
        ·exact oB wm
        ·exact oB wm
        ·exact zAr ⟨rfl,rfl,rfl,_,rfl,rfl⟩ (fun hg=>zAD ⟨hg,hg,rfl,trivial⟩) (fun hg=>zAj (as':=[.osl 1,.i x52]) (zBY (zAz h54 hg)).x zB9 rfl ⟨cv0,cv0,trivial⟩ rfl rfl)
        ·exact zBr
        refine V va<|nl<|bn<|an<|rg<|V vad<|V vm<|?_
        obtain rfl:=Option.some.inj hr
        exact zAJ ((zAA hX [0,1,2,3,4,5,6] 4 rfl rfl wS wO))
       ·obtain rfl:=zA8 hc51 ho
        exact zAH (zAF (⟨rfl,(zAA hX [0,1,2,3,4,5,6] 4 rfl rfl wS wO)⟩))
     ·rintro s35 rfl
      refine rg<|V vad<|V vm<|?_
      obtain rfl:=Option.some.inj hr
      exact zAJ ((zAA hX [0,1,2,3,4,5] 4 rfl rfl wS wO))
     ·exact fun r h e st hne hx=>hx.elim
    ·obtain rfl:=zA8 hc34 ho
     exact zAH (zAF (⟨rfl,(zAA hX [0,1,3,4,5] 4 rfl rfl wS wO)⟩))
theorem f93_runs {p0:Int}{p1:List (Int×Bool)}{r:Bool}(hr:f93 p0 p1=some r) : zBb Tryz.prog 93 [.i p0,.rp [.dm .i .bool p1]] [.bool r]:=by
 refine zAW Tryz.func93 Tryz.ntmps93 rfl (rs:=[.tmp 3]) rfl rfl fun w0 X hX=>?_
 refine sq<|rg<|V va<|nl<|an<|sq<|rg<|V vlr<|V vm<|?_
 refine V (zBA (kx:=p0) (r:=.bool ((mget p1 p0).getD false)) (undX 89 rfl) kt3 zw4 rfl rfl rfl rfl)<|V va<|?_
 obtain rfl:=Option.some.inj hr
 exact nl<|an<|cr<|zAk (l':=[(3,.bool ((mget p1 p0).getD false))]) (zAA hX [] 4 rfl rfl wS trivial) rfl ⟨rfl,trivial⟩
theorem f46_runs {p0:ZW}{p1:Int}{p2:Int}{r:Int×List Int}(hr:f46 p0 p1 p2=some r) : Runs Tryz.prog 46 [.rp (D76 p0),.i p1,.i p2] [] (fun q Hq=>q=[.osl 0,.i r.1]∧Hq=[.sl 3 .i r.2]):=by
 refine zAW Tryz.func46 Tryz.ntmps46 rfl (rs:=[.tmp 6,.tmp 7]) rfl rfl fun w0 X hX=>?_
 refine sq<|rg<|V va<|V va<|nl<|an<|sq<|sq<|rg<|V vm<|?_
 refine V (zCj (undX 26 rfl) rfl rfl)<|nl<|an<|?_
 refine zA3 rfl<|sk<|an<|sq<|sq<|rg<|V vm<|V vls<|nl<|an<|?_
 refine cnd (fun hc2 hr=>?_) (fun hc2 hr=>?_)
 ·refine sq<|rg<|V va<|V va<|?_
  obtain rfl:=Option.some.inj hr
  exact nl<|an<|cr<|zAC (zAe (l':=[(6,.osl 0),(7,.i 7)]) (Hs:=[(0,.sl 3 .i ([] : List Int))]) (n:=1) (Wk.trans (zAt (t:=6) 3 .i rfl) (zAA hX [0] 4 rfl rfl wS wO)) rfl rfl rfl ⟨rfl,rfl,trivial⟩)
 ·obtain ⟨x3,e4,hr⟩:=zA hr
  refine sk<|an<|sq<|sq<|rg<|V vm<|V vm<|?_
  refine V (zAM (t:=.i) (qs:=[(0,[.i p1])]) (ys:=[p1]) bs33 rfl rfl rfl rfl rfl rfl rfl rfl)<|?_
  refine V (zAV (f50_runs e4).x ent50 rfl rfl)<|V va<|nl<|an<|sq<|rg<|V vm<|V vne<|nl<|an<|?_
  refine cnd (fun hc5 hr=>?_) (fun hc5 hr=>?_)
  ·refine sq<|rg<|V vm<|V va<|V va<|?_
   obtain rfl:=Option.some.inj hr
   exact nl<|an<|cr<|zAC (zAe (l':=[(6,.osl 0),(7,.i x3)]) (Hs:=[(0,.sl 3 .i ([] : List Int))]) (n:=1) (Wk.trans (zAt (t:=6) 3 .i rfl) (zAA hX [0] 4 rfl rfl wS wO)) rfl rfl rfl ⟨rfl,rfl,trivial⟩)
  ·refine sk<|an<|sq<|rg<|?_
   refine zAK (zB6 .i .bool rfl ?_)
   refine V vm<|?_
   refine zAK (zB (kx:=p1) (vx:=true) (undX 89 rfl) kt3 (.inr rfl) rfl rfl rfl rfl rfl rfl rfl ?_)
   obtain ⟨s14,e16,hr⟩:=zA hr
   refine V vm<|O oa<|O os<|nl<|an<|sq<|sq<|rg<|V va<|nl<|an<|bl<|?_
   refine awc_loop (S:=Int×Int×(List (Int×Bool))) (R:=(List (Int×Bool))) (fun p=>match p with | (s6,s7,s8)=>(⟨[(0,.rp (D76 p0)),(2,.i s6),(6,.nils),(7,.i 0),(9,.ptr 0 0),(10,.i s7)],[(0,.var 89 [.map 1]),(1,.map .i .bool s8)],2⟩ : AS)) (f46_b0 p0) (fun r e st=>match r with | s14=>e=.exit 0∧Wk X st ⟨[(6,.nils),(7,.i 0),(9,.ptr 0 0)],[(0,.var 89 [.map 1]),(1,.map .i .bool s14)],2⟩) e16 (by exact zAA hX [1,0] 4 rfl rfl wS wO) ?_ ?_
   ·intro e st hx
    obtain ⟨rfl,hw⟩:=hx
    obtain ⟨x17,e18,hr⟩:=zA hr
    refine bh<|an<|(zAY hw)<|sq<|rg<|V vlp<|?_
    refine zAK (zAp (as':=[.map 1]) (zCU e18).x ent52 rfl ⟨cv0,trivial⟩ rfl rfl rfl ?_)
    refine V va<|V va<|?_
    obtain rfl:=Option.some.inj hr
    exact nl<|an<|cr<|zAe (l':=[(6,.osl 0),(7,.i 0)]) (Hs:=[(0,.sl 3 .i x17)]) (n:=1) (zAA hX [2] 4 rfl rfl wS wO) rfl rfl rfl ⟨rfl,rfl,trivial⟩
   ·rintro ⟨s6,s7,s8⟩ o hr
    refine sq<|sq<|?_
    refine zAa [0,2,6,7,9,10] [(true,.i s6),(true,.bool (decide (0 < s6))),(true,.bool (decide (0 < s6))),(decide (0 < s6),.map 1),(decide (0 < s6),.i (List.length s8 : Int)),(decide (0 < s6),.i s7),(decide (0 < s6),.bool (!decide ((List.length s8 : Int)=s7))),(true,.bool ((decide (0 < s6))&&(!decide ((List.length s8 : Int)=s7))))] [[],[0],[1],[2],[3,2],[2],[4,5,2],[6,2]] [7] rfl rfl rfl rfl rfl ⟨?_,?_,?_,?_,?_,?_,?_,?_,trivial⟩ (zAD ⟨rfl,trivial⟩) ?_
    ·exact oB wm
    ·exact oB wgt
    ·exact oB wm
    ·exact oB wlp
    ·exact zAr ⟨rfl,rfl,rfl,_,rfl,rfl⟩ (fun hg=>zAD ⟨hg,rfl,trivial⟩) (fun hg=>zCa (tk:=.i) (tv:=.bool) rfl rfl (undX 89 rfl) rfl rfl)
    ·exact oB wm
    ·exact oB wne
    ·exact zBe
    refine an<|?_
    refine cnd (fun hc19 hr=>?_) (fun hc19 hr=>?_)
    ·obtain ⟨x20,e21,hr⟩:=zA hr
     refine sk<|an<|sq<|bl<|sq<|rg<|V vlp<|?_
     refine V (zCa (tk:=.i) (tv:=.bool) rfl rfl (undX 89 rfl) rfl rfl)<|V va<|nl<|an<|sq<|rg<|V vlp<|?_
     refine zAK (zAP (σ:=[1]) (as':=[.map 1]) (f92_runs e21).x ent92 rfl ⟨cv0,trivial⟩ rfl rfl rfl ?_)
     refine V va<|nl<|an<|sq<|sq<|rg<|V vm<|V vnr<|V vfr<|V vlr<|?_
     refine zAK (aop_range_dm (undX 74 rfl) rfl (fun xs22 hp23=>?_))
     obtain ⟨o28,e29,hr⟩:=zA hr
     refine nl<|an<|bl<|?_
     refine awc_nd (i:=2) rfl rfl (fun hn47=>?_)
     refine zCi (S:=(List (Int×Bool))) (R:=Unit) (f46_m1 s8) (fun p=>match p with | (l24,c25,s26)=>(⟨[(0,.rp (D76 p0)),(2,.i s6),(6,.nils),(7,.i 0),(9,.ptr 0 0),(10,.i (List.length s8 : Int)),(11,.map 1),(48,.map 2)],[(0,.var 89 [.map 3]),(1,.map .i .bool s26),(2,.mit .i Y5 l24 c25),(3,.map .i .bool s8)],4⟩ : AS)) (fun o e st=>match o with | .inr _=>False | .inl s26=>e=.exit 2∧Wk X st ⟨[(0,.rp (D76 p0)),(2,.i s6),(6,.nils),(7,.i 0),(9,.ptr 0 0),(10,.i (List.length s8 : Int)),(11,.map 1)],[(0,.var 89 [.map 2]),(1,.map .i .bool s26),(2,.map .i .bool s8)],3⟩) (K:=fun r=>f46_m1_q r o28) (f46_m1_o hn47 e29) hp23 (by exact zAA hX [0,2,3,1] 4 rfl rfl wS wO) ?_ ?_
     ·intro r hq e st hx
      rcases o28 with s26 | o28
      ·rcases r with s26z | r
       ·have hq : s26z.Perm s26:=hq
        obtain ⟨rfl,hw⟩:=hx
        refine bh<|an<|(zAY (Wk.trans hw (wk_perm (i:=1) rfl rfl hq)))<|rg<|V vm<|O os<|nl<|bn<|an<|rg<|V vm<|V vsu<|V va<|?_
        obtain rfl:=Option.some.inj hr
        exact zAJ ((zAA hX [0,1] 4 rfl rfl wS wO))
       ·exact hq.elim
      ·rcases r with r | r
       ·exact hq.elim
       exact hx.elim
     ·rintro l24 c25 s26 K' hr
      refine sq<|rg<|?_
      refine zAK (aop_next_dm rfl rfl (fun h33=>?_) (fun q30 p31 hq32=>?_))
      ·have hk:=hr.1 h33
       refine V vx<|?_
       exact zAJ (zAZ (awc_seq (zA3 rfl (zAH (zAF (⟨_,hk,rfl,(zAA hX [0,1,3] 4 rfl rfl wS wO)⟩))))))
      ·obtain ⟨o,hr,hk⟩:=hr.2 q30 p31 hq32
       obtain ⟨x34,e35,hr⟩:=zA hr
       refine V vx<|nl<|an<|sq<|?_
       refine zCZ rfl<|sk<|an<|bl<|sq<|rg<|V (av_entry_dm rfl rfl rfl)<|V vx<|O oa<|O os<|nl<|an<|sq<|rg<|V vfp<|V vlp<|?_
       refine V (zA4 (us:=[]) (vs:=[.ptr 0 0]) rfl rfl)<|?_
       refine V (zAj (as':=[.sl .i p31.2.2.2,.fn 93 [] [.ptr 0 0]]) (f66_runs (q1:=(fun y1=>f93 y1 s8)) (g1:=93) (c1s:=[.rp [.dm .i .bool s8]]) (fun _ r h=>(have h2:=f93_runs h; h2)) ⟨ent93⟩ e35).x ent66 rfl ⟨cv0,(cv3 rfl),trivial⟩ rfl rfl)<|nl<|an<|?_
       refine cnd (fun hc36 hr=>?_) (fun hc36 hr=>?_)
       ·obtain ⟨o42,e43,hr⟩:=zA hr
        refine sq<|rg<|V vfp<|V vlp<|V vnl<|V vm<|nl<|an<|bl<|?_
        refine zAb (t:=54) rfl (fun hl=>?_)
        refine zAI (List.length p31.2.2.2 : Int) (f46_b2 p31) (fun p=>match p with | (i37,s39)=>(⟨[(0,.rp (D76 p0)),(2,.i s6),(6,.nils),(7,.i 0),(9,.ptr 0 0),(10,.i (List.length s8 : Int)),(11,.map 1),(48,.map 2),(58,.sl .i p31.2.2.2),(59,.i (List.length p31.2.2.2 : Int)),(60,.i i37)],[(0,.var 89 [.map 3]),(1,.map .i .bool s39),(2,.mit .i Y5 (l24.eraseIdx q30) (some p31)),(3,.map .i .bool s8)],4⟩ : AS)) (fun o e st=>match o with | .inr _=>False | .inl s39=>e=.exit 4∧Wk X st ⟨[(0,.rp (D76 p0)),(2,.i s6),(6,.nils),(7,.i 0),(9,.ptr 0 0),(10,.i (List.length s8 : Int)),(11,.map 1),(48,.map 2)],[(0,.var 89 [.map 3]),(1,.map .i .bool s39),(2,.mit .i Y5 (l24.eraseIdx q30) (some p31)),(3,.map .i .bool s8)],4⟩) (zAf hl) e43 (by exact zAA hX [0,1,2,3] 4 rfl rfl wS wO) ?_ ?_
        ·intro e st hx
         rcases o42 with s39 | _
         ·obtain ⟨rfl,hw⟩:=hx
          obtain rfl:=Option.some.inj hr
          exact zAl (zAS (⟨_,hk (some p31),(Wk.trans hw (zAA hX [0,1,2,3] 4 rfl rfl wS wO))⟩))
         ·exact hx.elim
        ·rintro i37 s39 o ho
         refine sq<|rg<|V vls<|nl<|an<|sq<|?_
         refine zAO (b:=decide (i37 < (List.length p31.2.2.2 : Int))) rfl (fun hc44=>?_) (fun hc44=>?_)
         ·obtain ⟨q,hr,rfl⟩:=zA7 hc44 ho
          obtain ⟨x45,e46,hr⟩:=zA hr
          refine sk<|an<|sq<|bl<|sq<|rg<|V (zAQ (t:=.i) (e:=x45) (undX 33 rfl) (szX 3 rfl) rfl rfl e46)<|V vlr<|V va<|nl<|an<|rg<|V vm<|V vm<|?_
          refine zAK (zB (kx:=x45) (vx:=true) (undX 89 rfl) kt3 (.inl rfl) rfl rfl rfl rfl rfl rfl rfl ?_)
          refine nl<|bn<|an<|rg<|V vad<|V vm<|?_
          obtain rfl:=Option.some.inj hr
          exact zAJ ((zAA hX [0,1,2,3] 4 rfl rfl wS wO))
         ·obtain rfl:=zA8 hc44 ho
          exact zAH (zAF (⟨rfl,(zAA hX [0,1,2,3] 4 rfl rfl wS wO)⟩))
       ·obtain rfl:=Option.some.inj hr
        exact zAv (zAS (⟨_,hk (some p31),(zAA hX [0,1,2,3] 4 rfl rfl wS wO)⟩))
    ·obtain rfl:=Option.some.inj hr
     exact zAH (zAF (⟨rfl,(zAA hX [0,1] 4 rfl rfl wS wO)⟩))
theorem f47_runs {p0:ZR}{p1:Int}{p2:Int}{r:Int×List Int}(hr:f47 p0 p1 p2=some r) : Runs Tryz.prog 47 [.rp (R80 p0),.i p1,.i p2] [] (fun q Hq=>q=[.osl 0,.i r.1]∧Hq=[.sl 3 .i r.2]):=by
 refine zAW Tryz.func47 Tryz.ntmps47 rfl (rs:=[.tmp 6,.tmp 7]) rfl rfl fun w0 X hX=>?_
 refine sq<|rg<|V va<|V va<|nl<|an<|sq<|sq<|?_
 refine zAa [0,1,2,6,7] [(true,.i p1),(true,.bool (decide (p1 < 0))),(true,.bool (decide (p1 < 0))),(!(decide (p1 < 0)),.i p2),(!(decide (p1 < 0)),.bool (decide (p2 < 0))),(true,.bool ((decide (p1 < 0))||(decide (p2 < 0))))] [[],[0],[1],[2],[3,2],[4,2]] [5] rfl rfl rfl rfl rfl ⟨?_,?_,?_,?_,?_,?_,trivial⟩ (zAD ⟨rfl,trivial⟩) ?_
 ·exact oB wm
 ·exact oB wls
 ·exact oB wm
 ·exact oB wm
 ·exact oB wls
 ·exact zBr
 refine an<|?_
 refine cnd (fun hc2 hr=>?_) (fun hc2 hr=>?_)
 ·refine sq<|rg<|V va<|V va<|?_
  obtain rfl:=Option.some.inj hr
  exact nl<|an<|cr<|zAC (zAe (l':=[(6,.osl 0),(7,.i 7)]) (Hs:=[(0,.sl 3 .i ([] : List Int))]) (n:=1) (Wk.trans (zAt (t:=6) 3 .i rfl) (zAA hX [0] 4 rfl rfl wS wO)) rfl rfl rfl ⟨rfl,rfl,trivial⟩)
 ·obtain ⟨x3,e4,hr⟩:=zA hr
  refine sk<|an<|sq<|sq<|rg<|V vm<|V vm<|?_
  refine V (zAV (f82_runs e4).x ent82 rfl rfl)<|V vno<|nl<|an<|?_
  refine cnd (fun hc5 hr=>?_) (fun hc5 hr=>?_)
  ·refine sq<|rg<|V va<|V va<|?_
   obtain rfl:=Option.some.inj hr
   exact nl<|an<|cr<|zAC (zAe (l':=[(6,.osl 0),(7,.i 8)]) (Hs:=[(0,.sl 3 .i ([] : List Int))]) (n:=1) (Wk.trans (zAt (t:=6) 3 .i rfl) (zAA hX [0] 4 rfl rfl wS wO)) rfl rfl rfl ⟨rfl,rfl,trivial⟩)
  ·refine sk<|an<|sq<|rg<|V vm<|?_
   refine zAK (zBq (t:=.i) (qs:=[(0,[.i p1])]) (ys:=[p1]) bs33 rfl rfl rfl rfl rfl rfl rfl rfl ?_)
   obtain ⟨s11,e13,hr⟩:=zA hr
   refine V va<|nl<|an<|sq<|sq<|rg<|V va<|nl<|an<|bl<|?_
   refine awc_loop (S:=Int×List Int) (R:=List Int) (fun p=>match p with | (s6,s7)=>(⟨[(0,.rp (R80 p0)),(2,.i p2),(6,.nils),(7,.i 0),(8,.osl 0),(9,.i s6)],[(0,.sl 3 .i s7)],1⟩ : AS)) (f47_b0 p0 p2) (fun r e st=>match r with | s11=>e=.exit 0∧Wk X st ⟨[(0,.rp (R80 p0)),(6,.nils),(7,.i 0),(8,.osl 0)],[(0,.sl 3 .i s11)],1⟩) e13 (by exact zAA hX [0] 4 rfl rfl wS wO) ?_ ?_
   ·intro e st hx
    obtain ⟨rfl,hw⟩:=hx
    obtain ⟨o19,e20,hr⟩:=zA hr
    refine bh<|an<|(zAY hw)<|sq<|rg<|V va<|nl<|an<|sq<|sq<|rg<|V vm<|V vnr<|V vfr<|V vlr<|V vnl<|V vm<|nl<|an<|bl<|?_
    refine zAb (t:=92) rfl (fun hl=>?_)
    refine zAI (List.length p0.2.1 : Int) (f47_b1 p0 s11) (fun p=>match p with | (i14,s16)=>(⟨[(6,.nils),(7,.i 0),(8,.osl 0),(18,.osl 1),(92,.sl Y4 p0.2.1),(93,.i (List.length p0.2.1 : Int)),(94,.i i14)],[(0,.sl 3 .i s11),(1,.sl 3 .i s16)],2⟩ : AS)) (fun o e st=>match o with | .inr _=>False | .inl s16=>e=.exit 8∧Wk X st ⟨[(6,.nils),(7,.i 0),(18,.osl 0)],[(0,.sl 3 .i s16)],1⟩) (zAf hl) e20 (Wk.trans (zAt (t:=18) 3 .i rfl) (by exact zAA hX [0,1] 4 rfl rfl wS wO)) ?_ ?_
    ·intro e st hx
     rcases o19 with s16 | _
     ·obtain ⟨rfl,hw⟩:=hx
      refine bh<|an<|(zAY hw)<|sq<|rg<|V vm<|V va<|V va<|?_
      obtain rfl:=Option.some.inj hr
      exact nl<|an<|cr<|zAe (l':=[(6,.osl 0),(7,.i 0)]) (Hs:=[(0,.sl 3 .i s16)]) (n:=1) (zAA hX [0] 4 rfl rfl wS wO) rfl rfl rfl ⟨rfl,rfl,trivial⟩
     ·exact hx.elim
    ·rintro i14 s16 o ho
     refine sq<|rg<|V vls<|nl<|an<|sq<|?_
     refine zAO (b:=decide (i14 < (List.length p0.2.1 : Int))) rfl (fun hc21=>?_) (fun hc21=>?_)
     ·obtain ⟨q,hr,rfl⟩:=zA7 hc21 ho
      obtain ⟨o23,e24,hr⟩:=zA hr
      refine sk<|an<|?_
      refine zAy (S:=List Int) (R:=Unit) (fun s=>match s with | s22=>(⟨[(6,.nils),(7,.i 0),(8,.osl 0),(18,.osl 1),(92,.sl Y4 p0.2.1),(93,.i (List.length p0.2.1 : Int)),(94,.i i14)],[(0,.sl 3 .i s11),(1,.sl 3 .i s22)],2⟩ : AS)) (fun _ _ _=>False) e24 (fun hr=>?_) ?_ ?_
      ·obtain ⟨x25,e26,hr⟩:=zA hr
       obtain ⟨x27,e28,hr⟩:=zA hr
       refine bl<|sq<|rg<|V (zAQ (t:=Y4) (e:=x25) (undX 52 rfl) (szX 54 rfl) rfl rfl e26)<|V vlR<|O oa<|O os<|nl<|an<|sq<|rg<|V vm<|V vfp<|V vlp<|?_
       refine V (zAj (as':=[.osl 0,.i x25.1]) (zBY e28).x zB9 rfl ⟨cv0,cv0,trivial⟩ rfl rfl)<|nl<|an<|?_
       refine cnd (fun hc29 hr=>?_) (fun hc29 hr=>?_)
       ·refine rg<|V vm<|V vfp<|V vlp<|?_
        refine V (zAM (t:=.i) (qs:=[(0,[.i x25.1])]) (ys:=[x25.1]) bs33 rfl rfl rfl rfl rfl rfl rfl rfl)<|?_
        obtain ⟨h30,hr⟩:=zAN hr
        refine zAK (zAh rfl rfl zCt rfl rfl rfl h30 rfl ?_)
        refine V va<|?_
        obtain rfl:=Option.some.inj hr
        exact zAJ (zAS ((zAA hX [0,3] 4 rfl rfl wS wO)))
       ·obtain rfl:=Option.some.inj hr
        exact zAv (zAS ((zAA hX [0,1] 4 rfl rfl wS wO)))
      ·rintro s22 rfl
       refine rg<|V vad<|V vm<|?_
       obtain rfl:=Option.some.inj hr
       exact zAJ ((zAA hX [0,1] 4 rfl rfl wS wO))
      ·exact fun r h e st hne hx=>hx.elim
     ·obtain rfl:=zA8 hc21 ho
      exact zAH (zAF (⟨rfl,(zAA hX [1] 4 rfl rfl wS wO)⟩))
   ·rintro ⟨s6,s7⟩ o hr
    refine sq<|sq<|rg<|V vm<|V vm<|V vm<|V vnr<|V vfr<|V vlr<|V vnl<|?_
    refine V (av_min rfl rfl rfl)<|V vls<|nl<|an<|?_
    refine cnd (fun hc31 hr=>?_) (fun hc31 hr=>?_)
    ·refine sk<|an<|sq<|bl<|sq<|rg<|V vm<|?_
     obtain ⟨h32,hr⟩:=zAN hr
     refine zAK (zCk (t:=.i) rfl rfl zCt rfl rfl rfl h32 rfl ?_)
     obtain ⟨o38,e39,hr⟩:=zA hr
     refine V va<|nl<|an<|sq<|rg<|V vm<|V vnr<|V vfr<|V vlr<|V vnl<|V vm<|nl<|an<|bl<|?_
     refine zAb (t:=49) rfl (fun hl=>?_)
     refine zAI (List.length p0.2.2.1 : Int) (f47_b2 p0 s7) (fun p=>match p with | (i33,s35)=>(⟨[(0,.rp (R80 p0)),(2,.i p2),(6,.nils),(7,.i 0),(8,.osl 0),(9,.i s6),(10,.osl 1),(49,.sl Y5 p0.2.2.1),(50,.i (List.length p0.2.2.1 : Int)),(51,.i i33)],[(0,.sl 3 .i s35),(1,.sl 3 .i s7)],2⟩ : AS)) (fun o e st=>match o with | .inr _=>False | .inl s35=>e=.exit 2∧Wk X st ⟨[(0,.rp (R80 p0)),(2,.i p2),(6,.nils),(7,.i 0),(8,.osl 0),(9,.i s6)],[(0,.sl 3 .i s35)],1⟩) (zAf hl) e39 (by exact zAA hX [0,1] 4 rfl rfl wS wO) ?_ ?_
     ·intro e st hx
      rcases o38 with s35 | _
      ·obtain ⟨rfl,hw⟩:=hx
       refine bh<|bn<|an<|(zAY hw)<|rg<|V vm<|V vad<|V va<|?_
       obtain rfl:=Option.some.inj hr
       exact zAJ ((zAA hX [0] 4 rfl rfl wS wO))
      ·exact hx.elim
     ·rintro i33 s35 o ho
      refine sq<|rg<|V vls<|nl<|an<|sq<|?_
      refine zAO (b:=decide (i33 < (List.length p0.2.2.1 : Int))) rfl (fun hc40=>?_) (fun hc40=>?_)
      ·obtain ⟨q,hr,rfl⟩:=zA7 hc40 ho
       obtain ⟨x41,e42,hr⟩:=zA hr
       obtain ⟨o48,e49,hr⟩:=zA hr
       refine sk<|an<|sq<|bl<|sq<|rg<|V (zAQ (t:=Y5) (e:=x41) (undX 78 rfl) (szX 42 rfl) rfl rfl e42)<|V vlR<|O oa<|O os<|nl<|an<|sq<|rg<|V va<|nl<|an<|sq<|sq<|rg<|V vfp<|V vlp<|V vnl<|V vm<|nl<|an<|bl<|?_
       refine zAb (t:=56) rfl (fun hl=>?_)
       refine zAI (List.length x41.2.2 : Int) (f47_b3 s7 x41) (fun p=>match p with | (i43,s44)=>(⟨[(0,.rp (R80 p0)),(2,.i p2),(6,.nils),(7,.i 0),(8,.osl 0),(9,.i s6),(10,.osl 1),(12,.ptr 2 0),(13,.bool s44),(49,.sl Y5 p0.2.2.1),(50,.i (List.length p0.2.2.1 : Int)),(51,.i i33),(56,.sl .i x41.2.2),(57,.i (List.length x41.2.2 : Int)),(58,.i i43)],[(0,.sl 3 .i s35),(1,.sl 3 .i s7),(2,.var 42 [.i x41.1,.str x41.2.1,.sl .i x41.2.2])],3⟩ : AS)) (fun o e st=>match o with | .inr _=>False | .inl s44=>e=.exit 4∧Wk X st ⟨[(0,.rp (R80 p0)),(2,.i p2),(6,.nils),(7,.i 0),(8,.osl 0),(9,.i s6),(10,.osl 1),(12,.ptr 2 0),(13,.bool s44),(49,.sl Y5 p0.2.2.1),(50,.i (List.length p0.2.2.1 : Int)),(51,.i i33)],[(0,.sl 3 .i s35),(1,.sl 3 .i s7),(2,.var 42 [.i x41.1,.str x41.2.1,.sl .i x41.2.2])],3⟩) (zAf hl) e49 (by exact zAA hX [0,1,2] 4 rfl rfl wS wO) ?_ ?_
       ·intro e st hx
        rcases o48 with s44 | _
        ·obtain ⟨rfl,hw⟩:=hx
         obtain ⟨o55,e56,hr⟩:=zA hr
         refine bh<|an<|(zAY hw)<|sq<|rg<|V vfp<|V vlp<|V vnl<|V vm<|nl<|an<|bl<|?_
         refine zAb (t:=70) rfl (fun hl=>?_)
         refine zAI (List.length x41.2.2 : Int) (f47_b4 x41 s44) (fun p=>match p with | (i50,s52)=>(⟨[(0,.rp (R80 p0)),(2,.i p2),(6,.nils),(7,.i 0),(8,.osl 0),(9,.i s6),(10,.osl 1),(13,.bool s44),(49,.sl Y5 p0.2.2.1),(50,.i (List.length p0.2.2.1 : Int)),(51,.i i33),(70,.sl .i x41.2.2),(71,.i (List.length x41.2.2 : Int)),(72,.i i50)],[(0,.sl 3 .i s52),(1,.sl 3 .i s7)],2⟩ : AS)) (fun o e st=>match o with | .inr _=>False | .inl s52=>e=.exit 6∧Wk X st ⟨[(0,.rp (R80 p0)),(2,.i p2),(6,.nils),(7,.i 0),(8,.osl 0),(9,.i s6),(10,.osl 1),(49,.sl Y5 p0.2.2.1),(50,.i (List.length p0.2.2.1 : Int)),(51,.i i33)],[(0,.sl 3 .i s52),(1,.sl 3 .i s7)],2⟩) (zAf hl) e56 (by exact zAA hX [0,1] 4 rfl rfl wS wO) ?_ ?_
         ·intro e st hx
          rcases o55 with s52 | _
          ·obtain ⟨rfl,hw⟩:=hx
           refine bh<|bn<|an<|(zAY hw)<|rg<|V vad<|V vm<|?_
           obtain rfl:=Option.some.inj hr
           exact zAJ ((zAA hX [0,1] 4 rfl rfl wS wO))
          ·exact hx.elim
         ·rintro i50 s52 o ho
          refine sq<|rg<|V vls<|nl<|an<|sq<|?_
          refine zAO (b:=decide (i50 < (List.length x41.2.2 : Int))) rfl (fun hc57=>?_) (fun hc57=>?_)
          ·obtain ⟨q,hr,rfl⟩:=zA7 hc57 ho
           obtain ⟨o59,e60,hr⟩:=zA hr
           refine sk<|an<|?_
           refine zAy (S:=List Int) (R:=Unit) (fun s=>match s with | s58=>(⟨[(0,.rp (R80 p0)),(2,.i p2),(6,.nils),(7,.i 0),(8,.osl 0),(9,.i s6),(10,.osl 1),(13,.bool s44),(49,.sl Y5 p0.2.2.1),(50,.i (List.length p0.2.2.1 : Int)),(51,.i i33),(70,.sl .i x41.2.2),(71,.i (List.length x41.2.2 : Int)),(72,.i i50)],[(0,.sl 3 .i s58),(1,.sl 3 .i s7)],2⟩ : AS)) (fun _ _ _=>False) e60 (fun hr=>?_) ?_ ?_
           ·obtain ⟨x61,e62,hr⟩:=zA hr
            refine bl<|sq<|rg<|V (zAQ (t:=.i) (e:=x61) (undX 33 rfl) (szX 3 rfl) rfl rfl e62)<|V vlr<|V va<|nl<|an<|sq<|?_
            obtain ⟨h63,hr⟩:=zAN hr
            refine zAa [0,2,6,7,8,9,10,13,49,50,51,70,71,72,17] [(true,.bool s44),(true,.bool s44),(s44,.osl 0),(s44,.i x61),(s44,.bool ((f15 s52 x61).getD default)),(s44,.bool (!((f15 s52 x61).getD default))),(true,.bool (s44&&(!((f15 s52 x61).getD default))))] [[],[0],[1],[1],[2,3,1],[4,1],[5,1]] [6] rfl rfl rfl rfl rfl ⟨?_,?_,?_,?_,?_,?_,?_,trivial⟩ (zAD ⟨rfl,trivial⟩) ?_
            ·exact oB wm
            ·exact oB wm
            ·exact oB wm
            ·exact oB wm
            ·exact zAr ⟨rfl,rfl,rfl,_,rfl,rfl⟩ (fun hg=>zAD ⟨hg,hg,rfl,trivial⟩) (fun hg=>zAj (as':=[.osl 0,.i x61]) (zBY (zAz h63 hg)).x zB9 rfl ⟨cv0,cv0,trivial⟩ rfl rfl)
            ·exact oB wno
            ·exact zBe
            refine an<|?_
            refine cnd (fun hc64 hr=>?_) (fun hc64 hr=>?_)
            ·refine rg<|V vm<|V vm<|?_
             refine V (zAM (t:=.i) (qs:=[(0,[.i x61])]) (ys:=[x61]) bs33 rfl rfl rfl rfl rfl rfl rfl rfl)<|?_
             obtain ⟨h65,hr⟩:=zAN hr
             refine zAK (zAh rfl rfl zCt rfl rfl rfl h65 rfl ?_)
             refine V va<|?_
             obtain rfl:=Option.some.inj hr
             exact zAJ (zAS ((zAA hX [2,1] 4 rfl rfl wS wO)))
            ·obtain rfl:=Option.some.inj hr
             exact zAv (zAS ((zAA hX [0,1] 4 rfl rfl wS wO)))
           ·rintro s58 rfl
            refine rg<|V vad<|V vm<|?_
            obtain rfl:=Option.some.inj hr
            exact zAJ ((zAA hX [0,1] 4 rfl rfl wS wO))
           ·exact fun r h e st hne hx=>hx.elim
          ·obtain rfl:=zA8 hc57 ho
           exact zAH (zAF (⟨rfl,(zAA hX [0,1] 4 rfl rfl wS wO)⟩))
        ·exact hx.elim
       ·rintro i43 s44 o ho
        refine sq<|rg<|V vls<|nl<|an<|sq<|?_
        refine zAO (b:=decide (i43 < (List.length x41.2.2 : Int))) rfl (fun hc66=>?_) (fun hc66=>?_)
        ·obtain ⟨q,hr,rfl⟩:=zA7 hc66 ho
         obtain ⟨x67,e68,hr⟩:=zA hr
         refine sk<|an<|sq<|bl<|sq<|rg<|V (zAQ (t:=.i) (e:=x67) (undX 33 rfl) (szX 3 rfl) rfl rfl e68)<|V vlr<|V va<|nl<|an<|?_
         obtain ⟨h69,hr⟩:=zAN hr
         refine zBy 6 [0,2,6,7,8,9,10,12,13,49,50,51,56,57,58,15] [(true,.bool s44),(true,.bool s44),(!s44,.osl 1),(!s44,.i x67),(!s44,.bool ((f15 s7 x67).getD default)),(true,.bool (s44||((f15 s7 x67).getD default)))] [[],[0],[1],[1],[2,3,1],[4,1]] [5] rfl rfl rfl rfl rfl rfl ⟨?_,?_,?_,?_,?_,?_,trivial⟩ (zAD ⟨rfl,trivial⟩) ?_
         ·exact oB wm
         ·exact oB wm
         ·exact oB wm
         ·exact oB wm
         ·exact zAr ⟨rfl,rfl,rfl,_,rfl,rfl⟩ (fun hg=>zAD ⟨hg,hg,rfl,trivial⟩) (fun hg=>zAj (as':=[.osl 1,.i x67]) (zBY (zAz h69 hg)).x zB9 rfl ⟨cv0,cv0,trivial⟩ rfl rfl)
         ·exact zBr
         refine V va<|nl<|bn<|an<|rg<|V vad<|V vm<|?_
         obtain rfl:=Option.some.inj hr
         exact zAJ ((zAA hX [0,1,2] 4 rfl rfl wS wO))
        ·obtain rfl:=zA8 hc66 ho
         exact zAH (zAF (⟨rfl,(zAA hX [0,1,2] 4 rfl rfl wS wO)⟩))
      ·obtain rfl:=zA8 hc40 ho
       exact zAH (zAF (⟨rfl,(zAA hX [0] 4 rfl rfl wS wO)⟩))
    ·obtain rfl:=Option.some.inj hr
     exact zAH (zAF (⟨rfl,(zAA hX [0] 4 rfl rfl wS wO)⟩))
theorem f48_runs {p0_0:ZR}{p1:Int}{p2:Str}{r:Int×Int×(ZR)}(hr:f48 p0_0 p1 p2=some r) : Runs Tryz.prog 48 [.ptr 0 0,.i p1,.str p2] [.tr E80 (some p0_0)] (fun q Hq=>q=[.i r.1,.i r.2.1]∧Hq=[.tr E80 (some r.2.2)]):=by
 refine zAW Tryz.func48 Tryz.ntmps48 rfl (rs:=[.tmp 6,.tmp 7]) rfl rfl fun w0 X hX=>?_
 refine sq<|rg<|V va<|V va<|nl<|an<|sq<|bl<|sq<|rg<|V vm<|V vnt<|V vgt<|V va<|nl<|an<|?_
 refine cnd (fun hc2 hr=>?_) (fun hc2 hr=>?_)
 ·refine sq<|rg<|V va<|V va<|?_
  obtain rfl:=Option.some.inj hr
  exact nl<|an<|cr<|zAE (zAC (zAe (l':=[(6,.i 0),(7,.i 1)]) (Hs:=[(0,.tr E80 (some p0_0))]) (n:=1) (zAA hX [0] 4 rfl rfl wS wO) rfl rfl rfl ⟨rfl,rfl,trivial⟩))
 ·obtain ⟨x3,e4,hr⟩:=zA hr
  refine sq<|rg<|V vm<|?_
  refine V (zAV (f91_runs e4).x ent91 rfl rfl)<|V vno<|V va<|nl<|an<|?_
  refine cnd (fun hc5 hr=>?_) (fun hc5 hr=>?_)
  ·refine sq<|rg<|V va<|V va<|?_
   obtain rfl:=Option.some.inj hr
   exact nl<|an<|cr<|zAE (zAC (zAe (l':=[(6,.i 0),(7,.i 7)]) (Hs:=[(0,.tr E80 (some p0_0))]) (n:=1) (zAA hX [0] 4 rfl rfl wS wO) rfl rfl rfl ⟨rfl,rfl,trivial⟩))
  ·refine sq<|rg<|V vm<|V vnp<|V vfp<|?_
   refine zAG (zAd (i:=0) [.sl Y2 p0_0.1,.osl 1,.osl 2,.i p0_0.2.2.2.1,.i p0_0.2.2.2.2] [.sl 54 Y4 p0_0.2.1,.sl 42 Y5 p0_0.2.2.1] rfl rfl rfl rfl)<|V vlp<|V vnL<|V vge<|V va<|nl<|an<|?_
   refine cnd (fun hc6 hr=>?_) (fun hc6 hr=>?_)
   ·refine sq<|rg<|V va<|V va<|?_
    obtain rfl:=Option.some.inj hr
    exact nl<|an<|cr<|zAE (zAC (zAe (l':=[(6,.i 0),(7,.i 4)]) (Hs:=[(0,.tr E80 (some p0_0))]) (n:=1) (Wk.trans (zAT (i:=0) (T:=80) (e:=F80) (js:=[1,2]) p0_0 rfl (⟨[.sl Y2 p0_0.1],[.osl 1,.osl 2,.i p0_0.2.2.2.1,.i p0_0.2.2.2.2],[],[1,2],rfl,rfl,⟨rfl,rfl,rfl⟩,⟨[.osl 1],[.osl 2,.i p0_0.2.2.2.1,.i p0_0.2.2.2.2],[1],[2],rfl,rfl,.inl ⟨1,rfl,rfl,rfl⟩,⟨[.osl 2],[.i p0_0.2.2.2.1,.i p0_0.2.2.2.2],[2],[],rfl,rfl,.inl ⟨2,rfl,rfl,rfl⟩,⟨[.i p0_0.2.2.2.1],[.i p0_0.2.2.2.2],[],[],rfl,rfl,⟨rfl,rfl,rfl⟩,⟨rfl,rfl,rfl⟩⟩⟩⟩⟩) rfl) (zAA hX [0] 4 rfl rfl wS wO)) rfl rfl rfl ⟨rfl,rfl,trivial⟩))
   ·refine sk<|bn<|an<|sq<|?_
    obtain ⟨h7,hr⟩:=zAN hr
    refine zCV (st2:=⟨[(0,.ptr 0 0),(6,.i 0),(7,.i 0),(36,.osl 3)],[(0,.var 80 [.sl Y2 p0_0.1,.osl 1,.osl 2,.i p0_0.2.2.2.1,.i p0_0.2.2.2.2]),(1,.dead),(2,.sl 42 Y5 p0_0.2.2.1),(3,.sl 54 Y4 (p0_0.2.1++[(p0_0.2.2.2.1,p1,p2)]))],4⟩) 13 [0] [0,2,3,4,13,6,7,8,11,11,11,12,13] [[],[],[],[],[],[],[],[],[],[],[],[],[]] mixed [0,1,2,6,7] [(true,.ptr 0 0),(true,.ptr 0 0),(true,.ptr 0 0),(true,.ptr 0 1),(true,.osl 1),(true,.ptr 0 0),(true,.ptr 0 0),(true,.ptr 0 3),(true,.i p0_0.2.2.2.1),(true,.i p1),(true,.str p2),(true,.agg [.i p0_0.2.2.2.1,.i p1,.str p2]),(true,.sl Y4 [(p0_0.2.2.2.1,p1,p2)])] [[],[],[1],[2],[3],[],[5],[6],[7],[],[],[8,9,10],[11]] [4,12] [0,6,7,36] rfl rfl rfl rfl rfl rfl rfl rfl rfl rfl rfl rfl ⟨?_,?_,?_,?_,?_,?_,?_,?_,?_,?_,?_,?_,?_,trivial⟩ (zAD ⟨rfl,rfl,trivial⟩) rfl ⟨(fun X' o ho=>by obtain rfl:=Option.some.inj ho; exact zAg rfl),trivial⟩ rfl (fun X'=>zAh rfl rfl app52 rfl rfl rfl h7 rfl ⟨⟨rfl,rfl,rfl,rfl,trivial⟩,⟨rfl,rfl,rfl,rfl,trivial⟩,rfl⟩) ?_
    ·exact oB wm
    ·exact oB wm
    ·exact oB wnp
    ·exact oB wfp
    ·exact oB wlp
    ·exact oB wm
    ·exact oB wnp
    ·exact oB wfp
    ·exact oB wlp
    ·exact oB wm
    ·exact oB wm
    ·exact zAr rfl (fun hg=>zAD ⟨rfl,rfl,rfl,trivial⟩) (fun hg=>zAs (qs:=[(0,[.i p0_0.2.2.2.1]),(1,[.i p1]),(2,[.str p2])]) (cs:=[.i p0_0.2.2.2.1,.i p1,.str p2]) bt54 rfl rfl rfl)
    ·exact zAr rfl (fun hg=>zAD ⟨rfl,trivial⟩) (fun hg=>zAM (t:=Y4) (qs:=[(0,[.i p0_0.2.2.2.1,.i p1,.str p2])]) (ys:=[(p0_0.2.2.2.1,p1,p2)]) bs52 rfl rfl rfl rfl rfl rfl rfl rfl)
    refine V vnp<|V vfp<|O os<|nl<|an<|sq<|rg<|V vm<|V vnp<|V vfp<|V vlp<|V vad<|V vnp<|V vfp<|O os<|nl<|an<|sq<|rg<|V vm<|V vnp<|V vfp<|V vlp<|V vsu<|V va<|V va<|?_
    obtain rfl:=Option.some.inj hr
    exact nl<|an<|cr<|zAe (l':=[(6,.i (w64 ((w64 (p0_0.2.2.2.1+1)) - 1))),(7,.i 0)]) (Hs:=[(0,.tr E80 (some (p0_0.1,(p0_0.2.1++[(p0_0.2.2.2.1,p1,p2)]),p0_0.2.2.1,(w64 (p0_0.2.2.2.1+1)),p0_0.2.2.2.2)))]) (n:=1) (Wk.trans (zAT (i:=0) (T:=80) (e:=F80) (js:=[3,2]) (p0_0.1,(p0_0.2.1++[(p0_0.2.2.2.1,p1,p2)]),p0_0.2.2.1,(w64 (p0_0.2.2.2.1+1)),p0_0.2.2.2.2) rfl (⟨[.sl Y2 p0_0.1],[.osl 3,.osl 2,.i (w64 (p0_0.2.2.2.1+1)),.i p0_0.2.2.2.2],[],[3,2],rfl,rfl,⟨rfl,rfl,rfl⟩,⟨[.osl 3],[.osl 2,.i (w64 (p0_0.2.2.2.1+1)),.i p0_0.2.2.2.2],[3],[2],rfl,rfl,.inl ⟨3,rfl,rfl,rfl⟩,⟨[.osl 2],[.i (w64 (p0_0.2.2.2.1+1)),.i p0_0.2.2.2.2],[2],[],rfl,rfl,.inl ⟨2,rfl,rfl,rfl⟩,⟨[.i (w64 (p0_0.2.2.2.1+1))],[.i p0_0.2.2.2.2],[],[],rfl,rfl,⟨rfl,rfl,rfl⟩,⟨rfl,rfl,rfl⟩⟩⟩⟩⟩) rfl) (zAA hX [0] 4 rfl rfl wS wO)) rfl rfl rfl ⟨rfl,rfl,trivial⟩
theorem f11_runs {p0_0:ZW}{p1_0:ZR}{p2:ZA}{r:Bool×(ZW)×(ZR)}(hr:f11 p0_0 p1_0 p2=some r) : Runs Tryz.prog 11 [.ptr 0 0,.ptr 1 0,.agg (A35 p2)] [.tr E76 (some p0_0),.tr E80 (some p1_0)] (fun q Hq=>q=[.bool r.1]∧Hq=[.tr E76 (some r.2.1),.tr E80 (some r.2.2)]):=by
 refine zAW Tryz.func11 Tryz.ntmps11 rfl (rs:=[.tmp 6]) rfl rfl fun w0 X hX=>?_
 obtain ⟨o4,e5,hr⟩:=zA hr
 refine sq<|rg<|O ob<|V va<|nl<|an<|sq<|sq<|rg<|V vfp<|V vlp<|nl<|an<|bl<|?_
 refine zAy (S:=Bool) (R:=Unit) (fun s=>match s with | s3=>(⟨[(0,.ptr 0 0),(1,.ptr 1 0),(5,.ptr 2 0),(6,.bool false),(60,.i p2.1),(61,.bool s3)],[(0,.tr E76 (some p0_0)),(1,.tr E80 (some p1_0)),(2,.var 35 (A35 p2))],3⟩ : AS)) (fun _ _ _=>False) e5 (fun hr=>?_) ?_ ?_
 ·refine sq<|rg<|V veq<|V va<|nl<|an<|?_
  refine cnd (fun hc6 hr=>?_) (fun hc6 hr=>?_)
  ·obtain rfl:=Option.some.inj hr
   exact zAv ((zAA hX [0,1,2] 4 rfl rfl wS wO))
  ·refine sq<|rg<|V veq<|V va<|nl<|an<|?_
   refine cnd (fun hc7 hr=>?_) (fun hc7 hr=>?_)
   ·obtain rfl:=Option.some.inj hr
    exact zAv ((zAA hX [0,1,2] 4 rfl rfl wS wO))
   ·refine sq<|rg<|V veq<|V va<|nl<|an<|?_
    refine cnd (fun hc8 hr=>?_) (fun hc8 hr=>?_)
    ·obtain rfl:=Option.some.inj hr
     exact zAv ((zAA hX [0,1,2] 4 rfl rfl wS wO))
    ·refine sq<|rg<|V veq<|V va<|nl<|an<|?_
     refine cnd (fun hc9 hr=>?_) (fun hc9 hr=>?_)
     ·obtain rfl:=Option.some.inj hr
      exact zAv ((zAA hX [0,1,2] 4 rfl rfl wS wO))
     ·refine rg<|V veq<|V va<|?_
      obtain rfl:=Option.some.inj hr
      exact zAJ ((zAA hX [0,1,2] 4 rfl rfl wS wO))
 ·rintro s3 rfl
  refine cnd (fun hc10 hr=>?_) (fun hc10 hr=>?_)
  ·obtain ⟨x11,e12,hr⟩:=zA hr
   refine sq<|rg<|V vm<|V vfp<|V vlp<|V vfp<|V vlp<|?_
   refine zAK (zAP (σ:=[0]) (as':=[.ptr 0 0,.str p2.2.2.2.2.2.1,.sl .i p2.2.2.2.2.2.2.2.2]) (f24_runs e12).x ent24 rfl ⟨cv0,cv0,cv0,trivial⟩ rfl rfl rfl ?_)
   obtain ⟨x13,e14,hr⟩:=zA hr
   refine V vm<|V vx<|V vx<|V va<|V va<|nl<|an<|sq<|rg<|V vm<|V vfp<|V vlp<|V vfp<|V vlp<|?_
   refine zAK (zAP (σ:=[1]) (as':=[.ptr 1 0,.str p2.2.2.2.2.2.1,.sl .i p2.2.2.2.2.2.2.2.2]) (f32_runs e14).x ent32 rfl ⟨cv0,cv0,cv0,trivial⟩ rfl rfl rfl ?_)
   refine V vm<|V vx<|V vx<|V va<|V va<|nl<|an<|sq<|?_
   refine zAa [0,1,5,7,8,9,10] [(true,.i x11.1),(true,.i x13.1),(true,.bool (decide (x11.1=x13.1))),(true,.bool (decide (x11.1=x13.1))),(decide (x11.1=x13.1),.i x11.2.1),(decide (x11.1=x13.1),.i x13.2.1),(decide (x11.1=x13.1),.bool (decide (x11.2.1=x13.2.1))),(true,.bool ((decide (x11.1=x13.1))&&(decide (x11.2.1=x13.2.1)))),(true,.bool ((decide (x11.1=x13.1))&&(decide (x11.2.1=x13.2.1))))] [[],[],[0,1],[2],[3],[3],[4,5,3],[6,3],[7]] [8] rfl rfl rfl rfl rfl ⟨?_,?_,?_,?_,?_,?_,?_,?_,?_,trivial⟩ (zAD ⟨rfl,trivial⟩) ?_
   ·exact oB wm
   ·exact oB wm
   ·exact oB weq
   ·exact oB wm
   ·exact oB wm
   ·exact oB wm
   ·exact oB weq
   ·exact zBe
   ·exact oB wa
   obtain rfl:=Option.some.inj hr
   exact zAZ (zAw (zAE (zAC (zAe (l':=[(6,.bool ((decide (x11.1=x13.1))&&(decide (x11.2.1=x13.2.1))))]) (Hs:=[(0,.tr E76 (some x11.2.2)),(1,.tr E80 (some x13.2.2))]) (n:=2) (zAA hX [0,1] 4 rfl rfl wS wO) rfl rfl rfl ⟨rfl,trivial⟩))))
  ·refine sq<|rg<|V veq<|V va<|nl<|an<|?_
   refine cnd (fun hc15 hr=>?_) (fun hc15 hr=>?_)
   ·obtain ⟨x16,e17,hr⟩:=zA hr
    obtain ⟨x18,e19,hr⟩:=zA hr
    refine sq<|?_
    refine awc_drawS mixed (([false,false,false,false,false,false,false,false,false,false],⟨[(0,.ptr 0 0),(1,.ptr 1 0),(5,.ptr 2 0),(6,.bool false)],[(0,.tr E76 (some p0_0)),(1,.tr E80 (some p1_0)),(2,.var 35 (A35 p2))],3⟩,[0,1,4,5])::([true,false,false,false,false,false,false,false,false,false],⟨[(0,.ptr 0 0),(1,.ptr 1 0),(5,.ptr 2 0),(6,.bool false),(95,.ptr 0 0)],[(0,.tr E76 (some p0_0)),(1,.tr E80 (some p1_0)),(2,.var 35 (A35 p2))],3⟩,[1,4,5])::([false,true,false,false,false,false,false,false,false,false],⟨[(0,.ptr 0 0),(1,.ptr 1 0),(5,.ptr 2 0),(6,.bool false),(96,.ptr 2 1)],[(0,.tr E76 (some p0_0)),(1,.tr E80 (some p1_0)),(2,.var 35 (A35 p2))],3⟩,[0,2,4,5])::([false,false,false,false,true,false,false,false,false,false],⟨[(0,.ptr 0 0),(1,.ptr 1 0),(5,.ptr 2 0),(6,.bool false),(99,.ptr 1 0)],[(0,.tr E76 (some p0_0)),(1,.tr E80 (some p1_0)),(2,.var 35 (A35 p2))],3⟩,[0,1,5])::([false,false,false,false,false,true,false,false,false,false],⟨[(0,.ptr 0 0),(1,.ptr 1 0),(5,.ptr 2 0),(6,.bool false),(100,.ptr 2 1)],[(0,.tr E76 (some p0_0)),(1,.tr E80 (some p1_0)),(2,.var 35 (A35 p2))],3⟩,[0,1,4,6])::([true,true,false,false,false,false,false,false,false,false],⟨[(0,.ptr 0 0),(1,.ptr 1 0),(5,.ptr 2 0),(6,.bool false),(95,.ptr 0 0),(96,.ptr 2 1)],[(0,.tr E76 (some p0_0)),(1,.tr E80 (some p1_0)),(2,.var 35 (A35 p2))],3⟩,[2,4,5])::([true,false,false,false,true,false,false,false,false,false],⟨[(0,.ptr 0 0),(1,.ptr 1 0),(5,.ptr 2 0),(6,.bool false),(95,.ptr 0 0),(99,.ptr 1 0)],[(0,.tr E76 (some p0_0)),(1,.tr E80 (some p1_0)),(2,.var 35 (A35 p2))],3⟩,[1,5])::([true,false,false,false,false,true,false,false,false,false],⟨[(0,.ptr 0 0),(1,.ptr 1 0),(5,.ptr 2 0),(6,.bool false),(95,.ptr 0 0),(100,.ptr 2 1)],[(0,.tr E76 (some p0_0)),(1,.tr E80 (some p1_0)),(2,.var 35 (A35 p2))],3⟩,[1,4,6])::([false,true,true,false,false,false,false,false,false,false],⟨[(0,.ptr 0 0),(1,.ptr 1 0),(5,.ptr 2 0),(6,.bool false),(96,.ptr 2 1),(97,.i p2.2.1)],[(0,.tr E76 (some p0_0)),(1,.tr E80 (some p1_0)),(2,.var 35 (A35 p2))],3⟩,[0,4,5])::([false,true,false,false,true,false,false,false,false,false],⟨[(0,.ptr 0 0),(1,.ptr 1 0),(5,.ptr 2 0),(6,.bool false),(96,.ptr 2 1),(99,.ptr 1 0)],[(0,.tr E76 (some p0_0)),(1,.tr E80 (some p1_0)),(2,.var 35 (A35 p2))],3⟩,[0,2,5])::([false,true,false,false,false,true,false,false,false,false],⟨[(0,.ptr 0 0),(1,.ptr 1 0),(5,.ptr 2 0),(6,.bool false),(96,.ptr 2 1),(100,.ptr 2 1)],[(0,.tr E76 (some p0_0)),(1,.tr E80 (some p1_0)),(2,.var 35 (A35 p2))],3⟩,[0,2,4,6])::([false,false,false,false,true,true,false,false,false,false],⟨[(0,.ptr 0 0),(1,.ptr 1 0),(5,.ptr 2 0),(6,.bool false),(99,.ptr 1 0),(100,.ptr 2 1)],[(0,.tr E76 (some p0_0)),(1,.tr E80 (some p1_0)),(2,.var 35 (A35 p2))],3⟩,[0,1,6])::([false,false,false,false,false,true,true,false,false,false],⟨[(0,.ptr 0 0),(1,.ptr 1 0),(5,.ptr 2 0),(6,.bool false),(100,.ptr 2 1),(101,.i p2.2.1)],[(0,.tr E76 (some p0_0)),(1,.tr E80 (some p1_0)),(2,.var 35 (A35 p2))],3⟩,[0,1,4])::([true,true,true,false,false,false,false,false,false,false],⟨[(0,.ptr 0 0),(1,.ptr 1 0),(5,.ptr 2 0),(6,.bool false),(95,.ptr 0 0),(96,.ptr 2 1),(97,.i p2.2.1)],[(0,.tr E76 (some p0_0)),(1,.tr E80 (some p1_0)),(2,.var 35 (A35 p2))],3⟩,[3,4,5])::([true,true,false,false,true,false,false,false,false,false],⟨[(0,.ptr 0 0),(1,.ptr 1 0),(5,.ptr 2 0),(6,.bool false),(95,.ptr 0 0),(96,.ptr 2 1),(99,.ptr 1 0)],[(0,.tr E76 (some p0_0)),(1,.tr E80 (some p1_0)),(2,.var 35 (A35 p2))],3⟩,[2,5])::([true,true,false,false,false,true,false,false,false,false],⟨[(0,.ptr 0 0),(1,.ptr 1 0),(5,.ptr 2 0),(6,.bool false),(95,.ptr 0 0),(96,.ptr 2 1),(100,.ptr 2 1)],[(0,.tr E76 (some p0_0)),(1,.tr E80 (some p1_0)),(2,.var 35 (A35 p2))],3⟩,[2,4,6])::([true,false,false,false,true,true,false,false,false,false],⟨[(0,.ptr 0 0),(1,.ptr 1 0),(5,.ptr 2 0),(6,.bool false),(95,.ptr 0 0),(99,.ptr 1 0),(100,.ptr 2 1)],[(0,.tr E76 (some p0_0)),(1,.tr E80 (some p1_0)),(2,.var 35 (A35 p2))],3⟩,[1,6])::([true,false,false,false,false,true,true,false,false,false],⟨[(0,.ptr 0 0),(1,.ptr 1 0),(5,.ptr 2 0),(6,.bool false),(95,.ptr 0 0),(100,.ptr 2 1),(101,.i p2.2.1)],[(0,.tr E76 (some p0_0)),(1,.tr E80 (some p1_0)),(2,.var 35 (A35 p2))],3⟩,[1,4])::([false,true,true,false,true,false,false,false,false,false],⟨[(0,.ptr 0 0),(1,.ptr 1 0),(5,.ptr 2 0),(6,.bool false),(96,.ptr 2 1),(97,.i p2.2.1),(99,.ptr 1 0)],[(0,.tr E76 (some p0_0)),(1,.tr E80 (some p1_0)),(2,.var 35 (A35 p2))],3⟩,[0,5])::([false,true,true,false,false,true,false,false,false,false],⟨[(0,.ptr 0 0),(1,.ptr 1 0),(5,.ptr 2 0),(6,.bool false),(96,.ptr 2 1),(97,.i p2.2.1),(100,.ptr 2 1)],[(0,.tr E76 (some p0_0)),(1,.tr E80 (some p1_0)),(2,.var 35 (A35 p2))],3⟩,[0,4,6])::([false,true,false,false,true,true,false,false,false,false],⟨[(0,.ptr 0 0),(1,.ptr 1 0),(5,.ptr 2 0),(6,.bool false),(96,.ptr 2 1),(99,.ptr 1 0),(100,.ptr 2 1)],[(0,.tr E76 (some p0_0)),(1,.tr E80 (some p1_0)),(2,.var 35 (A35 p2))],3⟩,[0,2,6])::([false,true,false,false,false,true,true,false,false,false],⟨[(0,.ptr 0 0),(1,.ptr 1 0),(5,.ptr 2 0),(6,.bool false),(96,.ptr 2 1),(100,.ptr 2 1),(101,.i p2.2.1)],[(0,.tr E76 (some p0_0)),(1,.tr E80 (some p1_0)),(2,.var 35 (A35 p2))],3⟩,[0,2,4])::([false,false,false,false,true,true,true,false,false,false],⟨[(0,.ptr 0 0),(1,.ptr 1 0),(5,.ptr 2 0),(6,.bool false),(99,.ptr 1 0),(100,.ptr 2 1),(101,.i p2.2.1)],[(0,.tr E76 (some p0_0)),(1,.tr E80 (some p1_0)),(2,.var 35 (A35 p2))],3⟩,[0,1])::([true,true,true,true,false,false,false,false,false,false],⟨[(0,.ptr 0 0),(1,.ptr 1 0),(5,.ptr 2 0),(6,.bool false),(95,.ptr 0 0),(96,.ptr 2 1),(97,.i p2.2.1),(98,.i x16.1)],[(0,.tr E76 (some x16.2)),(1,.tr E80 (some p1_0)),(2,.var 35 (A35 p2))],3⟩,[4,5])::([true,true,true,false,true,false,false,false,false,false],⟨[(0,.ptr 0 0),(1,.ptr 1 0),(5,.ptr 2 0),(6,.bool false),(95,.ptr 0 0),(96,.ptr 2 1),(97,.i p2.2.1),(99,.ptr 1 0)],[(0,.tr E76 (some p0_0)),(1,.tr E80 (some p1_0)),(2,.var 35 (A35 p2))],3⟩,[3,5])::([true,true,true,false,false,true,false,false,false,false],⟨[(0,.ptr 0 0),(1,.ptr 1 0),(5,.ptr 2 0),(6,.bool false),(95,.ptr 0 0),(96,.ptr 2 1),(97,.i p2.2.1),(100,.ptr 2 1)],[(0,.tr E76 (some p0_0)),(1,.tr E80 (some p1_0)),(2,.var 35 (A35 p2))],3⟩,[3,4,6])::([true,true,false,false,true,true,false,false,false,false],⟨[(0,.ptr 0 0),(1,.ptr 1 0),(5,.ptr 2 0),(6,.bool false),(95,.ptr 0 0),(96,.ptr 2 1),(99,.ptr 1 0),(100,.ptr 2 1)],[(0,.tr E76 (some p0_0)),(1,.tr E80 (some p1_0)),(2,.var 35 (A35 p2))],3⟩,[2,6])::([true,true,false,false,false,true,true,false,false,false],⟨[(0,.ptr 0 0),(1,.ptr 1 0),(5,.ptr 2 0),(6,.bool false),(95,.ptr 0 0),(96,.ptr 2 1),(100,.ptr 2 1),(101,.i p2.2.1)],[(0,.tr E76 (some p0_0)),(1,.tr E80 (some p1_0)),(2,.var 35 (A35 p2))],3⟩,[2,4])::([true,false,false,false,true,true,true,false,false,false],⟨[(0,.ptr 0 0),(1,.ptr 1 0),(5,.ptr 2 0),(6,.bool false),(95,.ptr 0 0),(99,.ptr 1 0),(100,.ptr 2 1),(101,.i p2.2.1)],[(0,.tr E76 (some p0_0)),(1,.tr E80 (some p1_0)),(2,.var 35 (A35 p2))],3⟩,[1])::([false,true,true,false,true,true,false,false,false,false],⟨[(0,.ptr 0 0),(1,.ptr 1 0),(5,.ptr 2 0),(6,.bool false),(96,.ptr 2 1),(97,.i p2.2.1),(99,.ptr 1 0),(100,.ptr 2 1)],[(0,.tr E76 (some p0_0)),(1,.tr E80 (some p1_0)),(2,.var 35 (A35 p2))],3⟩,[0,6])::([false,true,true,false,false,true,true,false,false,false],⟨[(0,.ptr 0 0),(1,.ptr 1 0),(5,.ptr 2 0),(6,.bool false),(96,.ptr 2 1),(97,.i p2.2.1),(100,.ptr 2 1),(101,.i p2.2.1)],[(0,.tr E76 (some p0_0)),(1,.tr E80 (some p1_0)),(2,.var 35 (A35 p2))],3⟩,[0,4])::([false,true,false,false,true,true,true,false,false,false],⟨[(0,.ptr 0 0),(1,.ptr 1 0),(5,.ptr 2 0),(6,.bool false),(96,.ptr 2 1),(99,.ptr 1 0),(100,.ptr 2 1),(101,.i p2.2.1)],[(0,.tr E76 (some p0_0)),(1,.tr E80 (some p1_0)),(2,.var 35 (A35 p2))],3⟩,[0,2])::([true,true,true,true,true,false,false,false,false,false],⟨[(0,.ptr 0 0),(1,.ptr 1 0),(5,.ptr 2 0),(6,.bool false),(95,.ptr 0 0),(96,.ptr 2 1),(97,.i p2.2.1),(98,.i x16.1),(99,.ptr 1 0)],[(0,.tr E76 (some x16.2)),(1,.tr E80 (some p1_0)),(2,.var 35 (A35 p2))],3⟩,[5])::([true,true,true,true,false,true,false,false,false,false],⟨[(0,.ptr 0 0),(1,.ptr 1 0),(5,.ptr 2 0),(6,.bool false),(95,.ptr 0 0),(96,.ptr 2 1),(97,.i p2.2.1),(98,.i x16.1),(100,.ptr 2 1)],[(0,.tr E76 (some x16.2)),(1,.tr E80 (some p1_0)),(2,.var 35 (A35 p2))],3⟩,[4,6])::([true,true,true,false,true,true,false,false,false,false],⟨[(0,.ptr 0 0),(1,.ptr 1 0),(5,.ptr 2 0),(6,.bool false),(95,.ptr 0 0),(96,.ptr 2 1),(97,.i p2.2.1),(99,.ptr 1 0),(100,.ptr 2 1)],[(0,.tr E76 (some p0_0)),(1,.tr E80 (some p1_0)),(2,.var 35 (A35 p2))],3⟩,[3,6])::([true,true,true,false,false,true,true,false,false,false],⟨[(0,.ptr 0 0),(1,.ptr 1 0),(5,.ptr 2 0),(6,.bool false),(95,.ptr 0 0),(96,.ptr 2 1),(97,.i p2.2.1),(100,.ptr 2 1),(101,.i p2.2.1)],[(0,.tr E76 (some p0_0)),(1,.tr E80 (some p1_0)),(2,.var 35 (A35 p2))],3⟩,[3,4])::([true,true,false,false,true,true,true,false,false,false],⟨[(0,.ptr 0 0),(1,.ptr 1 0),(5,.ptr 2 0),(6,.bool false),(95,.ptr 0 0),(96,.ptr 2 1),(99,.ptr 1 0),(100,.ptr 2 1),(101,.i p2.2.1)],[(0,.tr E76 (some p0_0)),(1,.tr E80 (some p1_0)),(2,.var 35 (A35 p2))],3⟩,[2])::([false,true,true,false,true,true,true,false,false,false],⟨[(0,.ptr 0 0),(1,.ptr 1 0),(5,.ptr 2 0),(6,.bool false),(96,.ptr 2 1),(97,.i p2.2.1),(99,.ptr 1 0),(100,.ptr 2 1),(101,.i p2.2.1)],[(0,.tr E76 (some p0_0)),(1,.tr E80 (some p1_0)),(2,.var 35 (A35 p2))],3⟩,[0])::([true,true,true,true,true,true,false,false,false,false],⟨[(0,.ptr 0 0),(1,.ptr 1 0),(5,.ptr 2 0),(6,.bool false),(95,.ptr 0 0),(96,.ptr 2 1),(97,.i p2.2.1),(98,.i x16.1),(99,.ptr 1 0),(100,.ptr 2 1)],[(0,.tr E76 (some x16.2)),(1,.tr E80 (some p1_0)),(2,.var 35 (A35 p2))],3⟩,[6])::([true,true,true,true,false,true,true,false,false,false],⟨[(0,.ptr 0 0),(1,.ptr 1 0),(5,.ptr 2 0),(6,.bool false),(95,.ptr 0 0),(96,.ptr 2 1),(97,.i p2.2.1),(98,.i x16.1),(100,.ptr 2 1),(101,.i p2.2.1)],[(0,.tr E76 (some x16.2)),(1,.tr E80 (some p1_0)),(2,.var 35 (A35 p2))],3⟩,[4])::([true,true,true,false,true,true,true,false,false,false],⟨[(0,.ptr 0 0),(1,.ptr 1 0),(5,.ptr 2 0),(6,.bool false),(95,.ptr 0 0),(96,.ptr 2 1),(97,.i p2.2.1),(99,.ptr 1 0),(100,.ptr 2 1),(101,.i p2.2.1)],[(0,.tr E76 (some p0_0)),(1,.tr E80 (some p1_0)),(2,.var 35 (A35 p2))],3⟩,[3])::([true,true,true,true,true,true,true,false,false,false],⟨[(0,.ptr 0 0),(1,.ptr 1 0),(5,.ptr 2 0),(6,.bool false),(95,.ptr 0 0),(96,.ptr 2 1),(97,.i p2.2.1),(98,.i x16.1),(99,.ptr 1 0),(100,.ptr 2 1),(101,.i p2.2.1)],[(0,.tr E76 (some x16.2)),(1,.tr E80 (some p1_0)),(2,.var 35 (A35 p2))],3⟩,[7])::([true,true,true,true,true,true,true,true,false,false],⟨[(0,.ptr 0 0),(1,.ptr 1 0),(5,.ptr 2 0),(6,.bool false),(95,.ptr 0 0),(96,.ptr 2 1),(97,.i p2.2.1),(98,.i x16.1),(99,.ptr 1 0),(100,.ptr 2 1),(101,.i p2.2.1),(102,.i x18.1)],[(0,.tr E76 (some x16.2)),(1,.tr E80 (some x18.2)),(2,.var 35 (A35 p2))],3⟩,[8])::([true,true,true,true,true,true,true,true,true,false],⟨[(0,.ptr 0 0),(1,.ptr 1 0),(5,.ptr 2 0),(6,.bool false),(95,.ptr 0 0),(96,.ptr 2 1),(97,.i p2.2.1),(98,.i x16.1),(99,.ptr 1 0),(100,.ptr 2 1),(101,.i p2.2.1),(102,.i x18.1),(103,.bool (decide (x16.1=x18.1)))],[(0,.tr E76 (some x16.2)),(1,.tr E80 (some x18.2)),(2,.var 35 (A35 p2))],3⟩,[9])::([true,true,true,true,true,true,true,true,true,true],⟨[(0,.ptr 0 0),(1,.ptr 1 0),(5,.ptr 2 0),(6,.bool (decide (x16.1=x18.1))),(95,.ptr 0 0),(96,.ptr 2 1),(97,.i p2.2.1),(98,.i x16.1),(99,.ptr 1 0),(100,.ptr 2 1),(101,.i p2.2.1),(102,.i x18.1),(103,.bool (decide (x16.1=x18.1)))],[(0,.tr E76 (some x16.2)),(1,.tr E80 (some x18.2)),(2,.var 35 (A35 p2))],3⟩,[])::[]) ⟨[(0,.ptr 0 0),(1,.ptr 1 0),(5,.ptr 2 0),(6,.bool false)],[(0,.tr E76 (some p0_0)),(1,.tr E80 (some p1_0)),(2,.var 35 (A35 p2))],3⟩ ⟨[(0,.ptr 0 0),(1,.ptr 1 0),(5,.ptr 2 0),(6,.bool (decide (x16.1=x18.1))),(95,.ptr 0 0),(96,.ptr 2 1),(97,.i p2.2.1),(98,.i x16.1),(99,.ptr 1 0),(100,.ptr 2 1),(101,.i p2.2.1),(102,.i x18.1),(103,.bool (decide (x16.1=x18.1)))],[(0,.tr E76 (some x16.2)),(1,.tr E80 (some x18.2)),(2,.var 35 (A35 p2))],3⟩ (zAA hX [0,1,2] 4 rfl rfl wS wO) rfl rfl rfl rfl rfl ⟨⟨⟨_,_,rfl,rfl,?_⟩,⟨_,_,rfl,rfl,?_⟩,⟨_,_,rfl,rfl,?_⟩,⟨_,_,rfl,rfl,?_⟩,trivial⟩,⟨⟨_,_,rfl,rfl,?_⟩,⟨_,_,rfl,rfl,?_⟩,⟨_,_,rfl,rfl,?_⟩,trivial⟩,⟨⟨_,_,rfl,rfl,?_⟩,⟨_,_,rfl,rfl,?_⟩,⟨_,_,rfl,rfl,?_⟩,⟨_,_,rfl,rfl,?_⟩,trivial⟩,⟨⟨_,_,rfl,rfl,?_⟩,⟨_,_,rfl,rfl,?_⟩,⟨_,_,rfl,rfl,?_⟩,trivial⟩,⟨⟨_,_,rfl,rfl,?_⟩,⟨_,_,rfl,rfl,?_⟩,⟨_,_,rfl,rfl,?_⟩,⟨_,_,rfl,rfl,?_⟩,trivial⟩,⟨⟨_,_,rfl,rfl,?_⟩,⟨_,_,rfl,rfl,?_⟩,⟨_,_,rfl,rfl,?_⟩,trivial⟩,⟨⟨_,_,rfl,rfl,?_⟩,⟨_,_,rfl,rfl,?_⟩,trivial⟩,⟨⟨_,_,rfl,rfl,?_⟩,⟨_,_,rfl,rfl,?_⟩,⟨_,_,rfl,rfl,?_⟩,trivial⟩,⟨⟨_,_,rfl,rfl,?_⟩,⟨_,_,rfl,rfl,?_⟩,⟨_,_,rfl,rfl,?_⟩,trivial⟩,⟨⟨_,_,rfl,rfl,?_⟩,⟨_,_,rfl,rfl,?_⟩,⟨_,_,rfl,rfl,?_⟩,trivial⟩,⟨⟨_,_,rfl,rfl,?_⟩,⟨_,_,rfl,rfl,?_⟩,⟨_,_,rfl,rfl,?_⟩,⟨_,_,rfl,rfl,?_⟩,trivial⟩,⟨⟨_,_,rfl,rfl,?_⟩,⟨_,_,rfl,rfl,?_⟩,⟨_,_,rfl,rfl,?_⟩,trivial⟩,⟨⟨_,_,rfl,rfl,?_⟩,⟨_,_,rfl,rfl,?_⟩,⟨_,_,rfl,rfl,?_⟩,trivial⟩,⟨⟨_,_,rfl,rfl,?_⟩,⟨_,_,rfl,rfl,?_⟩,⟨_,_,rfl,rfl,?_⟩,trivial⟩,⟨⟨_,_,rfl,rfl,?_⟩,⟨_,_,rfl,rfl,?_⟩,trivial⟩,⟨⟨_,_,rfl,rfl,?_⟩,⟨_,_,rfl,rfl,?_⟩,⟨_,_,rfl,rfl,?_⟩,trivial⟩,⟨⟨_,_,rfl,rfl,?_⟩,⟨_,_,rfl,rfl,?_⟩,trivial⟩,⟨⟨_,_,rfl,rfl,?_⟩,⟨_,_,rfl,rfl,?_⟩,trivial⟩,⟨⟨_,_,rfl,rfl,?_⟩,⟨_,_,rfl,rfl,?_⟩,trivial⟩,⟨⟨_,_,rfl,rfl,?_⟩,⟨_,_,rfl,rfl,?_⟩,⟨_,_,rfl,rfl,?_⟩,trivial⟩,⟨⟨_,_,rfl,rfl,?_⟩,⟨_,_,rfl,rfl,?_⟩,⟨_,_,rfl,rfl,?_⟩,trivial⟩,⟨⟨_,_,rfl,rfl,?_⟩,⟨_,_,rfl,rfl,?_⟩,⟨_,_,rfl,rfl,?_⟩,trivial⟩,⟨⟨_,_,rfl,rfl,?_⟩,⟨_,_,rfl,rfl,?_⟩,trivial⟩,⟨⟨_,_,rfl,rfl,?_⟩,⟨_,_,rfl,rfl,?_⟩,trivial⟩,⟨⟨_,_,rfl,rfl,?_⟩,⟨_,_,rfl,rfl,?_⟩,trivial⟩,⟨⟨_,_,rfl,rfl,?_⟩,⟨_,_,rfl,rfl,?_⟩,⟨_,_,rfl,rfl,?_⟩,trivial⟩,⟨⟨_,_,rfl,rfl,?_⟩,⟨_,_,rfl,rfl,?_⟩,trivial⟩,⟨⟨_,_,rfl,rfl,?_⟩,⟨_,_,rfl,rfl,?_⟩,trivial⟩,⟨⟨_,_,rfl,rfl,?_⟩,trivial⟩,⟨⟨_,_,rfl,rfl,?_⟩,⟨_,_,rfl,rfl,?_⟩,trivial⟩,⟨⟨_,_,rfl,rfl,?_⟩,⟨_,_,rfl,rfl,?_⟩,trivial⟩,⟨⟨_,_,rfl,rfl,?_⟩,⟨_,_,rfl,rfl,?_⟩,trivial⟩,⟨⟨_,_,rfl,rfl,?_⟩,trivial⟩,⟨⟨_,_,rfl,rfl,?_⟩,⟨_,_,rfl,rfl,?_⟩,trivial⟩,⟨⟨_,_,rfl,rfl,?_⟩,⟨_,_,rfl,rfl,?_⟩,trivial⟩,⟨⟨_,_,rfl,rfl,?_⟩,⟨_,_,rfl,rfl,?_⟩,trivial⟩,⟨⟨_,_,rfl,rfl,?_⟩,trivial⟩,⟨⟨_,_,rfl,rfl,?_⟩,trivial⟩,⟨⟨_,_,rfl,rfl,?_⟩,trivial⟩,⟨⟨_,_,rfl,rfl,?_⟩,trivial⟩,⟨⟨_,_,rfl,rfl,?_⟩,trivial⟩,⟨⟨_,_,rfl,rfl,?_⟩,trivial⟩,⟨⟨_,_,rfl,rfl,?_⟩,trivial⟩,⟨⟨_,_,rfl,rfl,?_⟩,trivial⟩,trivial,trivial⟩ ?_
    ·exact (zAX (zAg rfl) (zAA hX [0,1,2] 4 rfl rfl ⟨⟨_,rfl,cv0⟩,⟨_,rfl,cv0⟩,⟨_,rfl,cv0⟩,⟨_,rfl,cv0⟩,⟨_,rfl,cv0⟩,trivial⟩ ⟨zAL,zAL,zAL,trivial⟩))
    ·exact (zAX (zAc (faX 35 1 rfl) rfl rfl) (zAA hX [0,1,2] 4 rfl rfl ⟨⟨_,rfl,cv0⟩,⟨_,rfl,cv0⟩,⟨_,rfl,cv0⟩,⟨_,rfl,cv0⟩,⟨_,rfl,cv0⟩,trivial⟩ ⟨zAL,zAL,zAL,trivial⟩))
    ·exact (zAX (zAg rfl) (zAA hX [0,1,2] 4 rfl rfl ⟨⟨_,rfl,cv0⟩,⟨_,rfl,cv0⟩,⟨_,rfl,cv0⟩,⟨_,rfl,cv0⟩,⟨_,rfl,cv0⟩,trivial⟩ ⟨zAL,zAL,zAL,trivial⟩))
    ·exact (zAX (zAc (faX 35 1 rfl) rfl rfl) (zAA hX [0,1,2] 4 rfl rfl ⟨⟨_,rfl,cv0⟩,⟨_,rfl,cv0⟩,⟨_,rfl,cv0⟩,⟨_,rfl,cv0⟩,⟨_,rfl,cv0⟩,trivial⟩ ⟨zAL,zAL,zAL,trivial⟩))
    ·exact (zAX (zAc (faX 35 1 rfl) rfl rfl) (zAA hX [0,1,2] 4 rfl rfl ⟨⟨_,rfl,cv0⟩,⟨_,rfl,cv0⟩,⟨_,rfl,cv0⟩,⟨_,rfl,cv0⟩,⟨_,rfl,cv0⟩,⟨_,rfl,cv0⟩,trivial⟩ ⟨zAL,zAL,zAL,trivial⟩))
    ·exact (zAX (zAg rfl) (zAA hX [0,1,2] 4 rfl rfl ⟨⟨_,rfl,cv0⟩,⟨_,rfl,cv0⟩,⟨_,rfl,cv0⟩,⟨_,rfl,cv0⟩,⟨_,rfl,cv0⟩,⟨_,rfl,cv0⟩,trivial⟩ ⟨zAL,zAL,zAL,trivial⟩))
    ·exact (zAX (zAc (faX 35 1 rfl) rfl rfl) (zAA hX [0,1,2] 4 rfl rfl ⟨⟨_,rfl,cv0⟩,⟨_,rfl,cv0⟩,⟨_,rfl,cv0⟩,⟨_,rfl,cv0⟩,⟨_,rfl,cv0⟩,⟨_,rfl,cv0⟩,trivial⟩ ⟨zAL,zAL,zAL,trivial⟩))
    ·exact (zAX (zAg rfl) (zAA hX [0,1,2] 4 rfl rfl ⟨⟨_,rfl,cv0⟩,⟨_,rfl,cv0⟩,⟨_,rfl,cv0⟩,⟨_,rfl,cv0⟩,⟨_,rfl,cv0⟩,⟨_,rfl,cv0⟩,trivial⟩ ⟨zAL,zAL,zAL,trivial⟩))
    ·exact (zAX (zAU (tsX 3 rfl) rfl rfl rfl) (zAA hX [0,1,2] 4 rfl rfl ⟨⟨_,rfl,cv0⟩,⟨_,rfl,cv0⟩,⟨_,rfl,cv0⟩,⟨_,rfl,cv0⟩,⟨_,rfl,cv0⟩,⟨_,rfl,cv0⟩,trivial⟩ ⟨zAL,zAL,zAL,trivial⟩))
    ·exact (zAX (zAg rfl) (zAA hX [0,1,2] 4 rfl rfl ⟨⟨_,rfl,cv0⟩,⟨_,rfl,cv0⟩,⟨_,rfl,cv0⟩,⟨_,rfl,cv0⟩,⟨_,rfl,cv0⟩,⟨_,rfl,cv0⟩,trivial⟩ ⟨zAL,zAL,zAL,trivial⟩))
    ·exact (zAX (zAc (faX 35 1 rfl) rfl rfl) (zAA hX [0,1,2] 4 rfl rfl ⟨⟨_,rfl,cv0⟩,⟨_,rfl,cv0⟩,⟨_,rfl,cv0⟩,⟨_,rfl,cv0⟩,⟨_,rfl,cv0⟩,⟨_,rfl,cv0⟩,trivial⟩ ⟨zAL,zAL,zAL,trivial⟩))
    ·exact (zAX (zAg rfl) (zAA hX [0,1,2] 4 rfl rfl ⟨⟨_,rfl,cv0⟩,⟨_,rfl,cv0⟩,⟨_,rfl,cv0⟩,⟨_,rfl,cv0⟩,⟨_,rfl,cv0⟩,⟨_,rfl,cv0⟩,trivial⟩ ⟨zAL,zAL,zAL,trivial⟩))
    ·exact (zAX (zAc (faX 35 1 rfl) rfl rfl) (zAA hX [0,1,2] 4 rfl rfl ⟨⟨_,rfl,cv0⟩,⟨_,rfl,cv0⟩,⟨_,rfl,cv0⟩,⟨_,rfl,cv0⟩,⟨_,rfl,cv0⟩,⟨_,rfl,cv0⟩,trivial⟩ ⟨zAL,zAL,zAL,trivial⟩))
    ·exact (zAX (zAc (faX 35 1 rfl) rfl rfl) (zAA hX [0,1,2] 4 rfl rfl ⟨⟨_,rfl,cv0⟩,⟨_,rfl,cv0⟩,⟨_,rfl,cv0⟩,⟨_,rfl,cv0⟩,⟨_,rfl,cv0⟩,⟨_,rfl,cv0⟩,trivial⟩ ⟨zAL,zAL,zAL,trivial⟩))
    ·exact (zAX (zAg rfl) (zAA hX [0,1,2] 4 rfl rfl ⟨⟨_,rfl,cv0⟩,⟨_,rfl,cv0⟩,⟨_,rfl,cv0⟩,⟨_,rfl,cv0⟩,⟨_,rfl,cv0⟩,⟨_,rfl,cv0⟩,trivial⟩ ⟨zAL,zAL,zAL,trivial⟩))
    ·exact (zAX (zAc (faX 35 1 rfl) rfl rfl) (zAA hX [0,1,2] 4 rfl rfl ⟨⟨_,rfl,cv0⟩,⟨_,rfl,cv0⟩,⟨_,rfl,cv0⟩,⟨_,rfl,cv0⟩,⟨_,rfl,cv0⟩,⟨_,rfl,cv0⟩,trivial⟩ ⟨zAL,zAL,zAL,trivial⟩))
    ·exact (zAX (zAg rfl) (zAA hX [0,1,2] 4 rfl rfl ⟨⟨_,rfl,cv0⟩,⟨_,rfl,cv0⟩,⟨_,rfl,cv0⟩,⟨_,rfl,cv0⟩,⟨_,rfl,cv0⟩,⟨_,rfl,cv0⟩,trivial⟩ ⟨zAL,zAL,zAL,trivial⟩))
    ·exact (zAX (zAU (tsX 3 rfl) rfl rfl rfl) (zAA hX [0,1,2] 4 rfl rfl ⟨⟨_,rfl,cv0⟩,⟨_,rfl,cv0⟩,⟨_,rfl,cv0⟩,⟨_,rfl,cv0⟩,⟨_,rfl,cv0⟩,⟨_,rfl,cv0⟩,trivial⟩ ⟨zAL,zAL,zAL,trivial⟩))
    ·exact (zAX (zAU (tsX 3 rfl) rfl rfl rfl) (zAA hX [0,1,2] 4 rfl rfl ⟨⟨_,rfl,cv0⟩,⟨_,rfl,cv0⟩,⟨_,rfl,cv0⟩,⟨_,rfl,cv0⟩,⟨_,rfl,cv0⟩,⟨_,rfl,cv0⟩,⟨_,rfl,cv0⟩,trivial⟩ ⟨zAL,zAL,zAL,trivial⟩))
    ·exact (zAX (zAg rfl) (zAA hX [0,1,2] 4 rfl rfl ⟨⟨_,rfl,cv0⟩,⟨_,rfl,cv0⟩,⟨_,rfl,cv0⟩,⟨_,rfl,cv0⟩,⟨_,rfl,cv0⟩,⟨_,rfl,cv0⟩,⟨_,rfl,cv0⟩,trivial⟩ ⟨zAL,zAL,zAL,trivial⟩))
    ·exact (zAX (zAc (faX 35 1 rfl) rfl rfl) (zAA hX [0,1,2] 4 rfl rfl ⟨⟨_,rfl,cv0⟩,⟨_,rfl,cv0⟩,⟨_,rfl,cv0⟩,⟨_,rfl,cv0⟩,⟨_,rfl,cv0⟩,⟨_,rfl,cv0⟩,⟨_,rfl,cv0⟩,trivial⟩ ⟨zAL,zAL,zAL,trivial⟩))
    ·exact (zAX (zAc (faX 35 1 rfl) rfl rfl) (zAA hX [0,1,2] 4 rfl rfl ⟨⟨_,rfl,cv0⟩,⟨_,rfl,cv0⟩,⟨_,rfl,cv0⟩,⟨_,rfl,cv0⟩,⟨_,rfl,cv0⟩,⟨_,rfl,cv0⟩,⟨_,rfl,cv0⟩,trivial⟩ ⟨zAL,zAL,zAL,trivial⟩))
    ·exact (zAX (zAc (faX 35 1 rfl) rfl rfl) (zAA hX [0,1,2] 4 rfl rfl ⟨⟨_,rfl,cv0⟩,⟨_,rfl,cv0⟩,⟨_,rfl,cv0⟩,⟨_,rfl,cv0⟩,⟨_,rfl,cv0⟩,⟨_,rfl,cv0⟩,⟨_,rfl,cv0⟩,trivial⟩ ⟨zAL,zAL,zAL,trivial⟩))
    ·exact (zAX (zAc (faX 35 1 rfl) rfl rfl) (zAA hX [0,1,2] 4 rfl rfl ⟨⟨_,rfl,cv0⟩,⟨_,rfl,cv0⟩,⟨_,rfl,cv0⟩,⟨_,rfl,cv0⟩,⟨_,rfl,cv0⟩,⟨_,rfl,cv0⟩,⟨_,rfl,cv0⟩,trivial⟩ ⟨zAL,zAL,zAL,trivial⟩))
    ·exact (zAX (zAg rfl) (zAA hX [0,1,2] 4 rfl rfl ⟨⟨_,rfl,cv0⟩,⟨_,rfl,cv0⟩,⟨_,rfl,cv0⟩,⟨_,rfl,cv0⟩,⟨_,rfl,cv0⟩,⟨_,rfl,cv0⟩,⟨_,rfl,cv0⟩,trivial⟩ ⟨zAL,zAL,zAL,trivial⟩))
    ·exact (zAX (zAU (tsX 3 rfl) rfl rfl rfl) (zAA hX [0,1,2] 4 rfl rfl ⟨⟨_,rfl,cv0⟩,⟨_,rfl,cv0⟩,⟨_,rfl,cv0⟩,⟨_,rfl,cv0⟩,⟨_,rfl,cv0⟩,⟨_,rfl,cv0⟩,⟨_,rfl,cv0⟩,trivial⟩ ⟨zAL,zAL,zAL,trivial⟩))
    ·exact (zAX (zAg rfl) (zAA hX [0,1,2] 4 rfl rfl ⟨⟨_,rfl,cv0⟩,⟨_,rfl,cv0⟩,⟨_,rfl,cv0⟩,⟨_,rfl,cv0⟩,⟨_,rfl,cv0⟩,⟨_,rfl,cv0⟩,⟨_,rfl,cv0⟩,trivial⟩ ⟨zAL,zAL,zAL,trivial⟩))
    ·exact (zAX (zAg rfl) (zAA hX [0,1,2] 4 rfl rfl ⟨⟨_,rfl,cv0⟩,⟨_,rfl,cv0⟩,⟨_,rfl,cv0⟩,⟨_,rfl,cv0⟩,⟨_,rfl,cv0⟩,⟨_,rfl,cv0⟩,⟨_,rfl,cv0⟩,trivial⟩ ⟨zAL,zAL,zAL,trivial⟩))
    ·exact (zAX (zAc (faX 35 1 rfl) rfl rfl) (zAA hX [0,1,2] 4 rfl rfl ⟨⟨_,rfl,cv0⟩,⟨_,rfl,cv0⟩,⟨_,rfl,cv0⟩,⟨_,rfl,cv0⟩,⟨_,rfl,cv0⟩,⟨_,rfl,cv0⟩,⟨_,rfl,cv0⟩,trivial⟩ ⟨zAL,zAL,zAL,trivial⟩))
    ·exact (zAX (zAg rfl) (zAA hX [0,1,2] 4 rfl rfl ⟨⟨_,rfl,cv0⟩,⟨_,rfl,cv0⟩,⟨_,rfl,cv0⟩,⟨_,rfl,cv0⟩,⟨_,rfl,cv0⟩,⟨_,rfl,cv0⟩,⟨_,rfl,cv0⟩,trivial⟩ ⟨zAL,zAL,zAL,trivial⟩))
    ·exact (zAX (zAU (tsX 3 rfl) rfl rfl rfl) (zAA hX [0,1,2] 4 rfl rfl ⟨⟨_,rfl,cv0⟩,⟨_,rfl,cv0⟩,⟨_,rfl,cv0⟩,⟨_,rfl,cv0⟩,⟨_,rfl,cv0⟩,⟨_,rfl,cv0⟩,⟨_,rfl,cv0⟩,trivial⟩ ⟨zAL,zAL,zAL,trivial⟩))
    ·exact (zAX (zAc (faX 35 1 rfl) rfl rfl) (zAA hX [0,1,2] 4 rfl rfl ⟨⟨_,rfl,cv0⟩,⟨_,rfl,cv0⟩,⟨_,rfl,cv0⟩,⟨_,rfl,cv0⟩,⟨_,rfl,cv0⟩,⟨_,rfl,cv0⟩,⟨_,rfl,cv0⟩,trivial⟩ ⟨zAL,zAL,zAL,trivial⟩))
    ·exact (zAX (zAg rfl) (zAA hX [0,1,2] 4 rfl rfl ⟨⟨_,rfl,cv0⟩,⟨_,rfl,cv0⟩,⟨_,rfl,cv0⟩,⟨_,rfl,cv0⟩,⟨_,rfl,cv0⟩,⟨_,rfl,cv0⟩,⟨_,rfl,cv0⟩,trivial⟩ ⟨zAL,zAL,zAL,trivial⟩))
    ·exact (zAX (zAU (tsX 3 rfl) rfl rfl rfl) (zAA hX [0,1,2] 4 rfl rfl ⟨⟨_,rfl,cv0⟩,⟨_,rfl,cv0⟩,⟨_,rfl,cv0⟩,⟨_,rfl,cv0⟩,⟨_,rfl,cv0⟩,⟨_,rfl,cv0⟩,⟨_,rfl,cv0⟩,trivial⟩ ⟨zAL,zAL,zAL,trivial⟩))
    ·exact (zAX (zAg rfl) (zAA hX [0,1,2] 4 rfl rfl ⟨⟨_,rfl,cv0⟩,⟨_,rfl,cv0⟩,⟨_,rfl,cv0⟩,⟨_,rfl,cv0⟩,⟨_,rfl,cv0⟩,⟨_,rfl,cv0⟩,⟨_,rfl,cv0⟩,trivial⟩ ⟨zAL,zAL,zAL,trivial⟩))
    ·exact (zAX (zAU (tsX 3 rfl) rfl rfl rfl) (zAA hX [0,1,2] 4 rfl rfl ⟨⟨_,rfl,cv0⟩,⟨_,rfl,cv0⟩,⟨_,rfl,cv0⟩,⟨_,rfl,cv0⟩,⟨_,rfl,cv0⟩,⟨_,rfl,cv0⟩,⟨_,rfl,cv0⟩,trivial⟩ ⟨zAL,zAL,zAL,trivial⟩))
    ·exact (zAX (zAg rfl) (zAA hX [0,1,2] 4 rfl rfl ⟨⟨_,rfl,cv0⟩,⟨_,rfl,cv0⟩,⟨_,rfl,cv0⟩,⟨_,rfl,cv0⟩,⟨_,rfl,cv0⟩,⟨_,rfl,cv0⟩,⟨_,rfl,cv0⟩,trivial⟩ ⟨zAL,zAL,zAL,trivial⟩))
    ·exact (zAX (zAc (faX 35 1 rfl) rfl rfl) (zAA hX [0,1,2] 4 rfl rfl ⟨⟨_,rfl,cv0⟩,⟨_,rfl,cv0⟩,⟨_,rfl,cv0⟩,⟨_,rfl,cv0⟩,⟨_,rfl,cv0⟩,⟨_,rfl,cv0⟩,⟨_,rfl,cv0⟩,trivial⟩ ⟨zAL,zAL,zAL,trivial⟩))
    ·exact (zAX (zAU (tsX 3 rfl) rfl rfl rfl) (zAA hX [0,1,2] 4 rfl rfl ⟨⟨_,rfl,cv0⟩,⟨_,rfl,cv0⟩,⟨_,rfl,cv0⟩,⟨_,rfl,cv0⟩,⟨_,rfl,cv0⟩,⟨_,rfl,cv0⟩,⟨_,rfl,cv0⟩,trivial⟩ ⟨zAL,zAL,zAL,trivial⟩))
    ·exact (zAX (zAg rfl) (zAA hX [0,1,2] 4 rfl rfl ⟨⟨_,rfl,cv0⟩,⟨_,rfl,cv0⟩,⟨_,rfl,cv0⟩,⟨_,rfl,cv0⟩,⟨_,rfl,cv0⟩,⟨_,rfl,cv0⟩,⟨_,rfl,cv0⟩,trivial⟩ ⟨zAL,zAL,zAL,trivial⟩))
    ·exact (zAX (zAc (faX 35 1 rfl) rfl rfl) (zAA hX [0,1,2] 4 rfl rfl ⟨⟨_,rfl,cv0⟩,⟨_,rfl,cv0⟩,⟨_,rfl,cv0⟩,⟨_,rfl,cv0⟩,⟨_,rfl,cv0⟩,⟨_,rfl,cv0⟩,⟨_,rfl,cv0⟩,trivial⟩ ⟨zAL,zAL,zAL,trivial⟩))
    ·exact (zAX (zAg rfl) (zAA hX [0,1,2] 4 rfl rfl ⟨⟨_,rfl,cv0⟩,⟨_,rfl,cv0⟩,⟨_,rfl,cv0⟩,⟨_,rfl,cv0⟩,⟨_,rfl,cv0⟩,⟨_,rfl,cv0⟩,⟨_,rfl,cv0⟩,trivial⟩ ⟨zAL,zAL,zAL,trivial⟩))
    ·exact (zAP (σ:=[0]) (as':=[.ptr 0 0,.i p2.2.1]) (f33_runs e17).x ent33 rfl ⟨cv0,cv0,trivial⟩ rfl rfl rfl (zAA hX [0,1,2] 4 rfl rfl wS wO))
    ·exact (zAX (zAg rfl) (zAA hX [0,1,2] 4 rfl rfl ⟨⟨_,rfl,cv0⟩,⟨_,rfl,cv0⟩,⟨_,rfl,cv0⟩,⟨_,rfl,cv0⟩,⟨_,rfl,cv0⟩,⟨_,rfl,cv0⟩,⟨_,rfl,cv0⟩,⟨_,rfl,cv0⟩,trivial⟩ ⟨zAL,zAL,zAL,trivial⟩))
    ·exact (zAX (zAc (faX 35 1 rfl) rfl rfl) (zAA hX [0,1,2] 4 rfl rfl ⟨⟨_,rfl,cv0⟩,⟨_,rfl,cv0⟩,⟨_,rfl,cv0⟩,⟨_,rfl,cv0⟩,⟨_,rfl,cv0⟩,⟨_,rfl,cv0⟩,⟨_,rfl,cv0⟩,⟨_,rfl,cv0⟩,trivial⟩ ⟨zAL,zAL,zAL,trivial⟩))
    ·exact (zAX (zAU (tsX 3 rfl) rfl rfl rfl) (zAA hX [0,1,2] 4 rfl rfl ⟨⟨_,rfl,cv0⟩,⟨_,rfl,cv0⟩,⟨_,rfl,cv0⟩,⟨_,rfl,cv0⟩,⟨_,rfl,cv0⟩,⟨_,rfl,cv0⟩,⟨_,rfl,cv0⟩,⟨_,rfl,cv0⟩,trivial⟩ ⟨zAL,zAL,zAL,trivial⟩))
    ·exact (zAX (zAc (faX 35 1 rfl) rfl rfl) (zAA hX [0,1,2] 4 rfl rfl ⟨⟨_,rfl,cv0⟩,⟨_,rfl,cv0⟩,⟨_,rfl,cv0⟩,⟨_,rfl,cv0⟩,⟨_,rfl,cv0⟩,⟨_,rfl,cv0⟩,⟨_,rfl,cv0⟩,⟨_,rfl,cv0⟩,trivial⟩ ⟨zAL,zAL,zAL,trivial⟩))
    ·exact (zAX (zAU (tsX 3 rfl) rfl rfl rfl) (zAA hX [0,1,2] 4 rfl rfl ⟨⟨_,rfl,cv0⟩,⟨_,rfl,cv0⟩,⟨_,rfl,cv0⟩,⟨_,rfl,cv0⟩,⟨_,rfl,cv0⟩,⟨_,rfl,cv0⟩,⟨_,rfl,cv0⟩,⟨_,rfl,cv0⟩,trivial⟩ ⟨zAL,zAL,zAL,trivial⟩))
    ·exact (zAX (zAg rfl) (zAA hX [0,1,2] 4 rfl rfl ⟨⟨_,rfl,cv0⟩,⟨_,rfl,cv0⟩,⟨_,rfl,cv0⟩,⟨_,rfl,cv0⟩,⟨_,rfl,cv0⟩,⟨_,rfl,cv0⟩,⟨_,rfl,cv0⟩,⟨_,rfl,cv0⟩,trivial⟩ ⟨zAL,zAL,zAL,trivial⟩))
    ·exact (zAX (zAU (tsX 3 rfl) rfl rfl rfl) (zAA hX [0,1,2] 4 rfl rfl ⟨⟨_,rfl,cv0⟩,⟨_,rfl,cv0⟩,⟨_,rfl,cv0⟩,⟨_,rfl,cv0⟩,⟨_,rfl,cv0⟩,⟨_,rfl,cv0⟩,⟨_,rfl,cv0⟩,⟨_,rfl,cv0⟩,trivial⟩ ⟨zAL,zAL,zAL,trivial⟩))
    ·exact (zAX (zAc (faX 35 1 rfl) rfl rfl) (zAA hX [0,1,2] 4 rfl rfl ⟨⟨_,rfl,cv0⟩,⟨_,rfl,cv0⟩,⟨_,rfl,cv0⟩,⟨_,rfl,cv0⟩,⟨_,rfl,cv0⟩,⟨_,rfl,cv0⟩,⟨_,rfl,cv0⟩,⟨_,rfl,cv0⟩,trivial⟩ ⟨zAL,zAL,zAL,trivial⟩))
    ·exact (zAX (zAU (tsX 3 rfl) rfl rfl rfl) (zAA hX [0,1,2] 4 rfl rfl ⟨⟨_,rfl,cv0⟩,⟨_,rfl,cv0⟩,⟨_,rfl,cv0⟩,⟨_,rfl,cv0⟩,⟨_,rfl,cv0⟩,⟨_,rfl,cv0⟩,⟨_,rfl,cv0⟩,⟨_,rfl,cv0⟩,trivial⟩ ⟨zAL,zAL,zAL,trivial⟩))
    ·exact (zAX (zAc (faX 35 1 rfl) rfl rfl) (zAA hX [0,1,2] 4 rfl rfl ⟨⟨_,rfl,cv0⟩,⟨_,rfl,cv0⟩,⟨_,rfl,cv0⟩,⟨_,rfl,cv0⟩,⟨_,rfl,cv0⟩,⟨_,rfl,cv0⟩,⟨_,rfl,cv0⟩,⟨_,rfl,cv0⟩,trivial⟩ ⟨zAL,zAL,zAL,trivial⟩))
    ·exact (zAX (zAg rfl) (zAA hX [0,1,2] 4 rfl rfl ⟨⟨_,rfl,cv0⟩,⟨_,rfl,cv0⟩,⟨_,rfl,cv0⟩,⟨_,rfl,cv0⟩,⟨_,rfl,cv0⟩,⟨_,rfl,cv0⟩,⟨_,rfl,cv0⟩,⟨_,rfl,cv0⟩,trivial⟩ ⟨zAL,zAL,zAL,trivial⟩))
    ·exact (zAX (zAg rfl) (zAA hX [0,1,2] 4 rfl rfl ⟨⟨_,rfl,cv0⟩,⟨_,rfl,cv0⟩,⟨_,rfl,cv0⟩,⟨_,rfl,cv0⟩,⟨_,rfl,cv0⟩,⟨_,rfl,cv0⟩,⟨_,rfl,cv0⟩,⟨_,rfl,cv0⟩,trivial⟩ ⟨zAL,zAL,zAL,trivial⟩))
    ·exact (zAX (zAc (faX 35 1 rfl) rfl rfl) (zAA hX [0,1,2] 4 rfl rfl ⟨⟨_,rfl,cv0⟩,⟨_,rfl,cv0⟩,⟨_,rfl,cv0⟩,⟨_,rfl,cv0⟩,⟨_,rfl,cv0⟩,⟨_,rfl,cv0⟩,⟨_,rfl,cv0⟩,⟨_,rfl,cv0⟩,trivial⟩ ⟨zAL,zAL,zAL,trivial⟩))
    ·exact (zAX (zAg rfl) (zAA hX [0,1,2] 4 rfl rfl ⟨⟨_,rfl,cv0⟩,⟨_,rfl,cv0⟩,⟨_,rfl,cv0⟩,⟨_,rfl,cv0⟩,⟨_,rfl,cv0⟩,⟨_,rfl,cv0⟩,⟨_,rfl,cv0⟩,⟨_,rfl,cv0⟩,trivial⟩ ⟨zAL,zAL,zAL,trivial⟩))
    ·exact (zAX (zAg rfl) (zAA hX [0,1,2] 4 rfl rfl ⟨⟨_,rfl,cv0⟩,⟨_,rfl,cv0⟩,⟨_,rfl,cv0⟩,⟨_,rfl,cv0⟩,⟨_,rfl,cv0⟩,⟨_,rfl,cv0⟩,⟨_,rfl,cv0⟩,⟨_,rfl,cv0⟩,trivial⟩ ⟨zAL,zAL,zAL,trivial⟩))
    ·exact (zAX (zAU (tsX 3 rfl) rfl rfl rfl) (zAA hX [0,1,2] 4 rfl rfl ⟨⟨_,rfl,cv0⟩,⟨_,rfl,cv0⟩,⟨_,rfl,cv0⟩,⟨_,rfl,cv0⟩,⟨_,rfl,cv0⟩,⟨_,rfl,cv0⟩,⟨_,rfl,cv0⟩,⟨_,rfl,cv0⟩,trivial⟩ ⟨zAL,zAL,zAL,trivial⟩))
    ·exact (zAX (zAg rfl) (zAA hX [0,1,2] 4 rfl rfl ⟨⟨_,rfl,cv0⟩,⟨_,rfl,cv0⟩,⟨_,rfl,cv0⟩,⟨_,rfl,cv0⟩,⟨_,rfl,cv0⟩,⟨_,rfl,cv0⟩,⟨_,rfl,cv0⟩,⟨_,rfl,cv0⟩,trivial⟩ ⟨zAL,zAL,zAL,trivial⟩))
    ·exact (zAX (zAU (tsX 3 rfl) rfl rfl rfl) (zAA hX [0,1,2] 4 rfl rfl ⟨⟨_,rfl,cv0⟩,⟨_,rfl,cv0⟩,⟨_,rfl,cv0⟩,⟨_,rfl,cv0⟩,⟨_,rfl,cv0⟩,⟨_,rfl,cv0⟩,⟨_,rfl,cv0⟩,⟨_,rfl,cv0⟩,trivial⟩ ⟨zAL,zAL,zAL,trivial⟩))
    ·exact (zAX (zAU (tsX 3 rfl) rfl rfl rfl) (zAA hX [0,1,2] 4 rfl rfl ⟨⟨_,rfl,cv0⟩,⟨_,rfl,cv0⟩,⟨_,rfl,cv0⟩,⟨_,rfl,cv0⟩,⟨_,rfl,cv0⟩,⟨_,rfl,cv0⟩,⟨_,rfl,cv0⟩,⟨_,rfl,cv0⟩,trivial⟩ ⟨zAL,zAL,zAL,trivial⟩))
    ·exact (zAX (zAg rfl) (zAA hX [0,1,2] 4 rfl rfl ⟨⟨_,rfl,cv0⟩,⟨_,rfl,cv0⟩,⟨_,rfl,cv0⟩,⟨_,rfl,cv0⟩,⟨_,rfl,cv0⟩,⟨_,rfl,cv0⟩,⟨_,rfl,cv0⟩,⟨_,rfl,cv0⟩,trivial⟩ ⟨zAL,zAL,zAL,trivial⟩))
    ·exact (zAX (zAU (tsX 3 rfl) rfl rfl rfl) (zAA hX [0,1,2] 4 rfl rfl ⟨⟨_,rfl,cv0⟩,⟨_,rfl,cv0⟩,⟨_,rfl,cv0⟩,⟨_,rfl,cv0⟩,⟨_,rfl,cv0⟩,⟨_,rfl,cv0⟩,⟨_,rfl,cv0⟩,⟨_,rfl,cv0⟩,trivial⟩ ⟨zAL,zAL,zAL,trivial⟩))
    ·exact (zAX (zAg rfl) (zAA hX [0,1,2] 4 rfl rfl ⟨⟨_,rfl,cv0⟩,⟨_,rfl,cv0⟩,⟨_,rfl,cv0⟩,⟨_,rfl,cv0⟩,⟨_,rfl,cv0⟩,⟨_,rfl,cv0⟩,⟨_,rfl,cv0⟩,⟨_,rfl,cv0⟩,trivial⟩ ⟨zAL,zAL,zAL,trivial⟩))
    ·exact (zAX (zAg rfl) (zAA hX [0,1,2] 4 rfl rfl ⟨⟨_,rfl,cv0⟩,⟨_,rfl,cv0⟩,⟨_,rfl,cv0⟩,⟨_,rfl,cv0⟩,⟨_,rfl,cv0⟩,⟨_,rfl,cv0⟩,⟨_,rfl,cv0⟩,⟨_,rfl,cv0⟩,trivial⟩ ⟨zAL,zAL,zAL,trivial⟩))
    ·exact (zAX (zAc (faX 35 1 rfl) rfl rfl) (zAA hX [0,1,2] 4 rfl rfl ⟨⟨_,rfl,cv0⟩,⟨_,rfl,cv0⟩,⟨_,rfl,cv0⟩,⟨_,rfl,cv0⟩,⟨_,rfl,cv0⟩,⟨_,rfl,cv0⟩,⟨_,rfl,cv0⟩,⟨_,rfl,cv0⟩,trivial⟩ ⟨zAL,zAL,zAL,trivial⟩))
    ·exact (zAX (zAg rfl) (zAA hX [0,1,2] 4 rfl rfl ⟨⟨_,rfl,cv0⟩,⟨_,rfl,cv0⟩,⟨_,rfl,cv0⟩,⟨_,rfl,cv0⟩,⟨_,rfl,cv0⟩,⟨_,rfl,cv0⟩,⟨_,rfl,cv0⟩,⟨_,rfl,cv0⟩,⟨_,rfl,cv0⟩,trivial⟩ ⟨zAL,zAL,zAL,trivial⟩))
    ·exact (zAX (zAc (faX 35 1 rfl) rfl rfl) (zAA hX [0,1,2] 4 rfl rfl ⟨⟨_,rfl,cv0⟩,⟨_,rfl,cv0⟩,⟨_,rfl,cv0⟩,⟨_,rfl,cv0⟩,⟨_,rfl,cv0⟩,⟨_,rfl,cv0⟩,⟨_,rfl,cv0⟩,⟨_,rfl,cv0⟩,⟨_,rfl,cv0⟩,trivial⟩ ⟨zAL,zAL,zAL,trivial⟩))
    ·exact (zAP (σ:=[0]) (as':=[.ptr 0 0,.i p2.2.1]) (f33_runs e17).x ent33 rfl ⟨cv0,cv0,trivial⟩ rfl rfl rfl (zAA hX [0,1,2] 4 rfl rfl wS wO))
    ·exact (zAX (zAc (faX 35 1 rfl) rfl rfl) (zAA hX [0,1,2] 4 rfl rfl ⟨⟨_,rfl,cv0⟩,⟨_,rfl,cv0⟩,⟨_,rfl,cv0⟩,⟨_,rfl,cv0⟩,⟨_,rfl,cv0⟩,⟨_,rfl,cv0⟩,⟨_,rfl,cv0⟩,⟨_,rfl,cv0⟩,⟨_,rfl,cv0⟩,trivial⟩ ⟨zAL,zAL,zAL,trivial⟩))
    ·exact (zAP (σ:=[0]) (as':=[.ptr 0 0,.i p2.2.1]) (f33_runs e17).x ent33 rfl ⟨cv0,cv0,trivial⟩ rfl rfl rfl (zAA hX [0,1,2] 4 rfl rfl wS wO))
    ·exact (zAX (zAg rfl) (zAA hX [0,1,2] 4 rfl rfl ⟨⟨_,rfl,cv0⟩,⟨_,rfl,cv0⟩,⟨_,rfl,cv0⟩,⟨_,rfl,cv0⟩,⟨_,rfl,cv0⟩,⟨_,rfl,cv0⟩,⟨_,rfl,cv0⟩,⟨_,rfl,cv0⟩,⟨_,rfl,cv0⟩,trivial⟩ ⟨zAL,zAL,zAL,trivial⟩))
    ·exact (zAX (zAU (tsX 3 rfl) rfl rfl rfl) (zAA hX [0,1,2] 4 rfl rfl ⟨⟨_,rfl,cv0⟩,⟨_,rfl,cv0⟩,⟨_,rfl,cv0⟩,⟨_,rfl,cv0⟩,⟨_,rfl,cv0⟩,⟨_,rfl,cv0⟩,⟨_,rfl,cv0⟩,⟨_,rfl,cv0⟩,⟨_,rfl,cv0⟩,trivial⟩ ⟨zAL,zAL,zAL,trivial⟩))
    ·exact (zAX (zAU (tsX 3 rfl) rfl rfl rfl) (zAA hX [0,1,2] 4 rfl rfl ⟨⟨_,rfl,cv0⟩,⟨_,rfl,cv0⟩,⟨_,rfl,cv0⟩,⟨_,rfl,cv0⟩,⟨_,rfl,cv0⟩,⟨_,rfl,cv0⟩,⟨_,rfl,cv0⟩,⟨_,rfl,cv0⟩,⟨_,rfl,cv0⟩,trivial⟩ ⟨zAL,zAL,zAL,trivial⟩))
    ·exact (zAX (zAU (tsX 3 rfl) rfl rfl rfl) (zAA hX [0,1,2] 4 rfl rfl ⟨⟨_,rfl,cv0⟩,⟨_,rfl,cv0⟩,⟨_,rfl,cv0⟩,⟨_,rfl,cv0⟩,⟨_,rfl,cv0⟩,⟨_,rfl,cv0⟩,⟨_,rfl,cv0⟩,⟨_,rfl,cv0⟩,⟨_,rfl,cv0⟩,trivial⟩ ⟨zAL,zAL,zAL,trivial⟩))
    ·exact (zAX (zAU (tsX 3 rfl) rfl rfl rfl) (zAA hX [0,1,2] 4 rfl rfl ⟨⟨_,rfl,cv0⟩,⟨_,rfl,cv0⟩,⟨_,rfl,cv0⟩,⟨_,rfl,cv0⟩,⟨_,rfl,cv0⟩,⟨_,rfl,cv0⟩,⟨_,rfl,cv0⟩,⟨_,rfl,cv0⟩,⟨_,rfl,cv0⟩,trivial⟩ ⟨zAL,zAL,zAL,trivial⟩))
    ·exact (zAX (zAg rfl) (zAA hX [0,1,2] 4 rfl rfl ⟨⟨_,rfl,cv0⟩,⟨_,rfl,cv0⟩,⟨_,rfl,cv0⟩,⟨_,rfl,cv0⟩,⟨_,rfl,cv0⟩,⟨_,rfl,cv0⟩,⟨_,rfl,cv0⟩,⟨_,rfl,cv0⟩,⟨_,rfl,cv0⟩,trivial⟩ ⟨zAL,zAL,zAL,trivial⟩))
    ·exact (zAX (zAc (faX 35 1 rfl) rfl rfl) (zAA hX [0,1,2] 4 rfl rfl ⟨⟨_,rfl,cv0⟩,⟨_,rfl,cv0⟩,⟨_,rfl,cv0⟩,⟨_,rfl,cv0⟩,⟨_,rfl,cv0⟩,⟨_,rfl,cv0⟩,⟨_,rfl,cv0⟩,⟨_,rfl,cv0⟩,⟨_,rfl,cv0⟩,trivial⟩ ⟨zAL,zAL,zAL,trivial⟩))
    ·exact (zAX (zAg rfl) (zAA hX [0,1,2] 4 rfl rfl ⟨⟨_,rfl,cv0⟩,⟨_,rfl,cv0⟩,⟨_,rfl,cv0⟩,⟨_,rfl,cv0⟩,⟨_,rfl,cv0⟩,⟨_,rfl,cv0⟩,⟨_,rfl,cv0⟩,⟨_,rfl,cv0⟩,⟨_,rfl,cv0⟩,trivial⟩ ⟨zAL,zAL,zAL,trivial⟩))
    ·exact (zAX (zAU (tsX 3 rfl) rfl rfl rfl) (zAA hX [0,1,2] 4 rfl rfl ⟨⟨_,rfl,cv0⟩,⟨_,rfl,cv0⟩,⟨_,rfl,cv0⟩,⟨_,rfl,cv0⟩,⟨_,rfl,cv0⟩,⟨_,rfl,cv0⟩,⟨_,rfl,cv0⟩,⟨_,rfl,cv0⟩,⟨_,rfl,cv0⟩,trivial⟩ ⟨zAL,zAL,zAL,trivial⟩))
    ·exact (zAX (zAg rfl) (zAA hX [0,1,2] 4 rfl rfl ⟨⟨_,rfl,cv0⟩,⟨_,rfl,cv0⟩,⟨_,rfl,cv0⟩,⟨_,rfl,cv0⟩,⟨_,rfl,cv0⟩,⟨_,rfl,cv0⟩,⟨_,rfl,cv0⟩,⟨_,rfl,cv0⟩,⟨_,rfl,cv0⟩,trivial⟩ ⟨zAL,zAL,zAL,trivial⟩))
    ·exact (zAX (zAg rfl) (zAA hX [0,1,2] 4 rfl rfl ⟨⟨_,rfl,cv0⟩,⟨_,rfl,cv0⟩,⟨_,rfl,cv0⟩,⟨_,rfl,cv0⟩,⟨_,rfl,cv0⟩,⟨_,rfl,cv0⟩,⟨_,rfl,cv0⟩,⟨_,rfl,cv0⟩,⟨_,rfl,cv0⟩,trivial⟩ ⟨zAL,zAL,zAL,trivial⟩))
    ·exact (zAX (zAg rfl) (zAA hX [0,1,2] 4 rfl rfl ⟨⟨_,rfl,cv0⟩,⟨_,rfl,cv0⟩,⟨_,rfl,cv0⟩,⟨_,rfl,cv0⟩,⟨_,rfl,cv0⟩,⟨_,rfl,cv0⟩,⟨_,rfl,cv0⟩,⟨_,rfl,cv0⟩,⟨_,rfl,cv0⟩,trivial⟩ ⟨zAL,zAL,zAL,trivial⟩))
    ·exact (zAX (zAU (tsX 3 rfl) rfl rfl rfl) (zAA hX [0,1,2] 4 rfl rfl ⟨⟨_,rfl,cv0⟩,⟨_,rfl,cv0⟩,⟨_,rfl,cv0⟩,⟨_,rfl,cv0⟩,⟨_,rfl,cv0⟩,⟨_,rfl,cv0⟩,⟨_,rfl,cv0⟩,⟨_,rfl,cv0⟩,⟨_,rfl,cv0⟩,trivial⟩ ⟨zAL,zAL,zAL,trivial⟩))
    ·exact (zAX (zAc (faX 35 1 rfl) rfl rfl) (zAA hX [0,1,2] 4 rfl rfl ⟨⟨_,rfl,cv0⟩,⟨_,rfl,cv0⟩,⟨_,rfl,cv0⟩,⟨_,rfl,cv0⟩,⟨_,rfl,cv0⟩,⟨_,rfl,cv0⟩,⟨_,rfl,cv0⟩,⟨_,rfl,cv0⟩,⟨_,rfl,cv0⟩,⟨_,rfl,cv0⟩,trivial⟩ ⟨zAL,zAL,zAL,trivial⟩))
    ·exact (zAX (zAg rfl) (zAA hX [0,1,2] 4 rfl rfl ⟨⟨_,rfl,cv0⟩,⟨_,rfl,cv0⟩,⟨_,rfl,cv0⟩,⟨_,rfl,cv0⟩,⟨_,rfl,cv0⟩,⟨_,rfl,cv0⟩,⟨_,rfl,cv0⟩,⟨_,rfl,cv0⟩,⟨_,rfl,cv0⟩,⟨_,rfl,cv0⟩,trivial⟩ ⟨zAL,zAL,zAL,trivial⟩))
    ·exact (zAX (zAU (tsX 3 rfl) rfl rfl rfl) (zAA hX [0,1,2] 4 rfl rfl ⟨⟨_,rfl,cv0⟩,⟨_,rfl,cv0⟩,⟨_,rfl,cv0⟩,⟨_,rfl,cv0⟩,⟨_,rfl,cv0⟩,⟨_,rfl,cv0⟩,⟨_,rfl,cv0⟩,⟨_,rfl,cv0⟩,⟨_,rfl,cv0⟩,⟨_,rfl,cv0⟩,trivial⟩ ⟨zAL,zAL,zAL,trivial⟩))
    ·exact (zAP (σ:=[0]) (as':=[.ptr 0 0,.i p2.2.1]) (f33_runs e17).x ent33 rfl ⟨cv0,cv0,trivial⟩ rfl rfl rfl (zAA hX [0,1,2] 4 rfl rfl wS wO))
    ·exact (zAX (zAU (tsX 3 rfl) rfl rfl rfl) (zAA hX [0,1,2] 4 rfl rfl ⟨⟨_,rfl,cv0⟩,⟨_,rfl,cv0⟩,⟨_,rfl,cv0⟩,⟨_,rfl,cv0⟩,⟨_,rfl,cv0⟩,⟨_,rfl,cv0⟩,⟨_,rfl,cv0⟩,⟨_,rfl,cv0⟩,⟨_,rfl,cv0⟩,⟨_,rfl,cv0⟩,trivial⟩ ⟨zAL,zAL,zAL,trivial⟩))
    ·exact (zAP (σ:=[0]) (as':=[.ptr 0 0,.i p2.2.1]) (f33_runs e17).x ent33 rfl ⟨cv0,cv0,trivial⟩ rfl rfl rfl (zAA hX [0,1,2] 4 rfl rfl wS wO))
    ·exact (zAX (zAg rfl) (zAA hX [0,1,2] 4 rfl rfl ⟨⟨_,rfl,cv0⟩,⟨_,rfl,cv0⟩,⟨_,rfl,cv0⟩,⟨_,rfl,cv0⟩,⟨_,rfl,cv0⟩,⟨_,rfl,cv0⟩,⟨_,rfl,cv0⟩,⟨_,rfl,cv0⟩,⟨_,rfl,cv0⟩,⟨_,rfl,cv0⟩,trivial⟩ ⟨zAL,zAL,zAL,trivial⟩))
    ·exact (zAX (zAU (tsX 3 rfl) rfl rfl rfl) (zAA hX [0,1,2] 4 rfl rfl ⟨⟨_,rfl,cv0⟩,⟨_,rfl,cv0⟩,⟨_,rfl,cv0⟩,⟨_,rfl,cv0⟩,⟨_,rfl,cv0⟩,⟨_,rfl,cv0⟩,⟨_,rfl,cv0⟩,⟨_,rfl,cv0⟩,⟨_,rfl,cv0⟩,⟨_,rfl,cv0⟩,trivial⟩ ⟨zAL,zAL,zAL,trivial⟩))
    ·exact (zAX (zAg rfl) (zAA hX [0,1,2] 4 rfl rfl ⟨⟨_,rfl,cv0⟩,⟨_,rfl,cv0⟩,⟨_,rfl,cv0⟩,⟨_,rfl,cv0⟩,⟨_,rfl,cv0⟩,⟨_,rfl,cv0⟩,⟨_,rfl,cv0⟩,⟨_,rfl,cv0⟩,⟨_,rfl,cv0⟩,⟨_,rfl,cv0⟩,trivial⟩ ⟨zAL,zAL,zAL,trivial⟩))
    ·exact (zAX (zAU (tsX 3 rfl) rfl rfl rfl) (zAA hX [0,1,2] 4 rfl rfl ⟨⟨_,rfl,cv0⟩,⟨_,rfl,cv0⟩,⟨_,rfl,cv0⟩,⟨_,rfl,cv0⟩,⟨_,rfl,cv0⟩,⟨_,rfl,cv0⟩,⟨_,rfl,cv0⟩,⟨_,rfl,cv0⟩,⟨_,rfl,cv0⟩,⟨_,rfl,cv0⟩,⟨_,rfl,cv0⟩,trivial⟩ ⟨zAL,zAL,zAL,trivial⟩))
    ·exact (zAX (zAg rfl) (zAA hX [0,1,2] 4 rfl rfl ⟨⟨_,rfl,cv0⟩,⟨_,rfl,cv0⟩,⟨_,rfl,cv0⟩,⟨_,rfl,cv0⟩,⟨_,rfl,cv0⟩,⟨_,rfl,cv0⟩,⟨_,rfl,cv0⟩,⟨_,rfl,cv0⟩,⟨_,rfl,cv0⟩,⟨_,rfl,cv0⟩,⟨_,rfl,cv0⟩,trivial⟩ ⟨zAL,zAL,zAL,trivial⟩))
    ·exact (zAP (σ:=[0]) (as':=[.ptr 0 0,.i p2.2.1]) (f33_runs e17).x ent33 rfl ⟨cv0,cv0,trivial⟩ rfl rfl rfl (zAA hX [0,1,2] 4 rfl rfl wS wO))
    ·exact (zAP (σ:=[1]) (as':=[.ptr 1 0,.i p2.2.1]) (f34_runs e19).x ent34 rfl ⟨cv0,cv0,trivial⟩ rfl rfl rfl (zAA hX [0,1,2] 4 rfl rfl wS wO))
    ·exact (zAX (av_eql rfl rfl) (zAA hX [0,1,2] 4 rfl rfl ⟨⟨_,rfl,cv0⟩,⟨_,rfl,cv0⟩,⟨_,rfl,cv0⟩,⟨_,rfl,cv0⟩,⟨_,rfl,cv0⟩,⟨_,rfl,cv0⟩,⟨_,rfl,cv0⟩,⟨_,rfl,cv0⟩,⟨_,rfl,cv0⟩,⟨_,rfl,cv0⟩,⟨_,rfl,cv0⟩,⟨_,rfl,cv0⟩,⟨_,rfl,cv0⟩,trivial⟩ ⟨zAL,zAL,zAL,trivial⟩))
    ·exact (zAX (av_assign rfl) (zAA hX [0,1,2] 4 rfl rfl ⟨⟨_,rfl,cv0⟩,⟨_,rfl,cv0⟩,⟨_,rfl,cv0⟩,⟨_,rfl,cv0⟩,⟨_,rfl,cv0⟩,⟨_,rfl,cv0⟩,⟨_,rfl,cv0⟩,⟨_,rfl,cv0⟩,⟨_,rfl,cv0⟩,⟨_,rfl,cv0⟩,⟨_,rfl,cv0⟩,⟨_,rfl,cv0⟩,⟨_,rfl,cv0⟩,trivial⟩ ⟨zAL,zAL,zAL,trivial⟩))
    obtain rfl:=Option.some.inj hr
    exact zAZ (zAw (zAE (zAC (zAe (l':=[(6,.bool (decide (x16.1=x18.1)))]) (Hs:=[(0,.tr E76 (some x16.2)),(1,.tr E80 (some x18.2))]) (n:=2) (zAA hX [0,1] 4 rfl rfl wS wO) rfl rfl rfl ⟨rfl,trivial⟩))))
   ·refine sq<|rg<|V veq<|V va<|nl<|an<|?_
    refine cnd (fun hc20 hr=>?_) (fun hc20 hr=>?_)
    ·obtain ⟨x21,e22,hr⟩:=zA hr
     obtain ⟨x23,e24,hr⟩:=zA hr
     refine sq<|rg<|V vm<|V vfp<|V vlp<|?_
     refine zAG (zAd (i:=0) (W76 p0_0 3 4) [.map .i Y4 p0_0.2.1,.map .i Y5 p0_0.2.2.1] rfl rfl rfl rfl)<|V (zBD (as':=[.ptr 0 0,.i p2.2.1]) (Hs:=[]) (f17_runs e22).x ent17 rfl ⟨cv0,cv0,trivial⟩ rfl rfl rfl)<|V vm<|V vx<|V vx<|O oa<|O os<|V va<|nl<|an<|sq<|rg<|V vm<|V vfp<|V vlp<|?_
     refine zAG (zAd (i:=1) [.sl Y2 p1_0.1,.osl 6,.osl 7,.i p1_0.2.2.2.1,.i p1_0.2.2.2.2] [.sl 54 Y4 p1_0.2.1,.sl 42 Y5 p1_0.2.2.1] rfl rfl rfl rfl)<|V (zBD (as':=[.ptr 1 0,.i p2.2.1]) (Hs:=[]) (f35_runs e24).x ent35 rfl ⟨cv0,cv0,trivial⟩ rfl rfl rfl)<|V vm<|V vx<|V vx<|O oa<|O os<|V va<|nl<|an<|sq<|?_
     refine zAa [0,1,5,11,12,13,14] [(true,.agg [.i x21.1.1,.i x21.1.2.1,.str x21.1.2.2]),(true,.agg [.i x23.1.1,.i x23.1.2.1,.str x23.1.2.2]),(true,.bool ((decide (x21.1.1=x23.1.1))&&((decide (x21.1.2.1=x23.1.2.1))&&(decide (bstr x21.1.2.2=bstr x23.1.2.2))))),(true,.bool ((decide (x21.1.1=x23.1.1))&&((decide (x21.1.2.1=x23.1.2.1))&&(decide (bstr x21.1.2.2=bstr x23.1.2.2))))),((decide (x21.1.1=x23.1.1))&&((decide (x21.1.2.1=x23.1.2.1))&&(decide (bstr x21.1.2.2=bstr x23.1.2.2))),.i x21.2),((decide (x21.1.1=x23.1.1))&&((decide (x21.1.2.1=x23.1.2.1))&&(decide (bstr x21.1.2.2=bstr x23.1.2.2))),.i x23.2),((decide (x21.1.1=x23.1.1))&&((decide (x21.1.2.1=x23.1.2.1))&&(decide (bstr x21.1.2.2=bstr x23.1.2.2))),.bool (decide (x21.2=x23.2))),(true,.bool (((decide (x21.1.1=x23.1.1))&&((decide (x21.1.2.1=x23.1.2.1))&&(decide (bstr x21.1.2.2=bstr x23.1.2.2))))&&(decide (x21.2=x23.2)))),(true,.bool (((decide (x21.1.1=x23.1.1))&&((decide (x21.1.2.1=x23.1.2.1))&&(decide (bstr x21.1.2.2=bstr x23.1.2.2))))&&(decide (x21.2=x23.2))))] [[],[],[0,1],[2],[3],[3],[4,5,3],[6,3],[7]] [8] rfl rfl rfl rfl rfl ⟨?_,?_,?_,?_,?_,?_,?_,?_,?_,trivial⟩ (zAD ⟨rfl,trivial⟩) ?_
     ·exact oB wlP
     ·exact oB wlP
     ·exact zAr rfl (fun hg=>zAD ⟨rfl,rfl,trivial⟩) (fun hg=>av_eqlA (r:=(decide (x21.1.1=x23.1.1))&&((decide (x21.1.2.1=x23.1.2.1))&&(decide (bstr x21.1.2.2=bstr x23.1.2.2)))) eq54 rfl rfl rfl rfl rfl rfl)
     ·exact oB wm
     ·exact oB wm
     ·exact oB wm
     ·exact oB weq
     ·exact zBe
     ·exact oB wa
     obtain rfl:=Option.some.inj hr
     exact zAZ (zAw (zAE (zAC (zAe (l':=[(6,.bool (((decide (x21.1.1=x23.1.1))&&((decide (x21.1.2.1=x23.1.2.1))&&(decide (bstr x21.1.2.2=bstr x23.1.2.2))))&&(decide (x21.2=x23.2))))]) (Hs:=[(0,.tr E76 (some p0_0)),(1,.tr E80 (some p1_0))]) (n:=2) (Wk.trans (zAT (i:=0) (T:=76) (e:=F76) (js:=[3,4]) p0_0 rfl (⟨[.sl Y2 p0_0.1],[.map 3,.map 4,.i p0_0.2.2.2.1,.i p0_0.2.2.2.2],[],[3,4],rfl,rfl,⟨rfl,rfl,rfl⟩,⟨[.map 3],[.map 4,.i p0_0.2.2.2.1,.i p0_0.2.2.2.2],[3],[4],rfl,rfl,⟨3,rfl,rfl,rfl⟩,⟨[.map 4],[.i p0_0.2.2.2.1,.i p0_0.2.2.2.2],[4],[],rfl,rfl,⟨4,rfl,rfl,rfl⟩,⟨[.i p0_0.2.2.2.1],[.i p0_0.2.2.2.2],[],[],rfl,rfl,⟨rfl,rfl,rfl⟩,⟨rfl,rfl,rfl⟩⟩⟩⟩⟩) rfl) (Wk.trans (zAT (i:=1) (T:=80) (e:=F80) (js:=[6,7]) p1_0 rfl (⟨[.sl Y2 p1_0.1],[.osl 6,.osl 7,.i p1_0.2.2.2.1,.i p1_0.2.2.2.2],[],[6,7],rfl,rfl,⟨rfl,rfl,rfl⟩,⟨[.osl 6],[.osl 7,.i p1_0.2.2.2.1,.i p1_0.2.2.2.2],[6],[7],rfl,rfl,.inl ⟨6,rfl,rfl,rfl⟩,⟨[.osl 7],[.i p1_0.2.2.2.1,.i p1_0.2.2.2.2],[7],[],rfl,rfl,.inl ⟨7,rfl,rfl,rfl⟩,⟨[.i p1_0.2.2.2.1],[.i p1_0.2.2.2.2],[],[],rfl,rfl,⟨rfl,rfl,rfl⟩,⟨rfl,rfl,rfl⟩⟩⟩⟩⟩) rfl) (zAA hX [0,1] 4 rfl rfl wS wO))) rfl rfl rfl ⟨rfl,trivial⟩))))
    ·refine sq<|rg<|V veq<|V va<|nl<|an<|?_
     refine cnd (fun hc25 hr=>?_) (fun hc25 hr=>?_)
     ·obtain ⟨x26,e27,hr⟩:=zA hr
      refine sq<|rg<|V vm<|V vfp<|V vlp<|?_
      refine zAK (zAP (σ:=[0]) (as':=[.ptr 0 0,.i p2.2.1]) (f14_runs e27).x ent14 rfl ⟨cv0,cv0,trivial⟩ rfl rfl rfl ?_)
      obtain ⟨x28,e29,hr⟩:=zA hr
      refine V vm<|V vx<|V vx<|O oa<|O os<|V va<|nl<|an<|sq<|rg<|V vm<|V vfp<|V vlp<|?_
      refine zAK (zAP (σ:=[1]) (as':=[.ptr 1 0,.i p2.2.1]) (f36_runs e29).x ent36 rfl ⟨cv0,cv0,trivial⟩ rfl rfl rfl ?_)
      refine V vm<|V vx<|V vx<|O oa<|O os<|V va<|nl<|an<|sq<|?_
      obtain ⟨h30,hr⟩:=zAN hr
      refine zAa [0,1,5,15,16,17,18] [(true,.ptr 3 0),(true,.i x26.1.1),(true,.ptr 4 0),(true,.i x28.1.1),(true,.bool (decide (x26.1.1=x28.1.1))),(true,.bool (decide (x26.1.1=x28.1.1))),(decide (x26.1.1=x28.1.1),.ptr 3 1),(decide (x26.1.1=x28.1.1),.str x26.1.2.1),(decide (x26.1.1=x28.1.1),.ptr 4 1),(decide (x26.1.1=x28.1.1),.str x28.1.2.1),(decide (x26.1.1=x28.1.1),.bool (decide (x26.1.2.1=x28.1.2.1))),(true,.bool ((decide (x26.1.1=x28.1.1))&&(decide (x26.1.2.1=x28.1.2.1)))),(true,.bool ((decide (x26.1.1=x28.1.1))&&(decide (x26.1.2.1=x28.1.2.1)))),((decide (x26.1.1=x28.1.1))&&(decide (x26.1.2.1=x28.1.2.1)),.ptr 3 2),((decide (x26.1.1=x28.1.1))&&(decide (x26.1.2.1=x28.1.2.1)),.sl .i x26.1.2.2),((decide (x26.1.1=x28.1.1))&&(decide (x26.1.2.1=x28.1.2.1)),.ptr 4 2),((decide (x26.1.1=x28.1.1))&&(decide (x26.1.2.1=x28.1.2.1)),.sl .i x28.1.2.2),((decide (x26.1.1=x28.1.1))&&(decide (x26.1.2.1=x28.1.2.1)),.bool ((f21 x26.1.2.2 x28.1.2.2).getD default)),(true,.bool (((decide (x26.1.1=x28.1.1))&&(decide (x26.1.2.1=x28.1.2.1)))&&((f21 x26.1.2.2 x28.1.2.2).getD default))),(true,.bool (((decide (x26.1.1=x28.1.1))&&(decide (x26.1.2.1=x28.1.2.1)))&&((f21 x26.1.2.2 x28.1.2.2).getD default))),(((decide (x26.1.1=x28.1.1))&&(decide (x26.1.2.1=x28.1.2.1)))&&((f21 x26.1.2.2 x28.1.2.2).getD default),.i x26.2),(((decide (x26.1.1=x28.1.1))&&(decide (x26.1.2.1=x28.1.2.1)))&&((f21 x26.1.2.2 x28.1.2.2).getD default),.i x28.2),(((decide (x26.1.1=x28.1.1))&&(decide (x26.1.2.1=x28.1.2.1)))&&((f21 x26.1.2.2 x28.1.2.2).getD default),.bool (decide (x26.2=x28.2))),(true,.bool ((((decide (x26.1.1=x28.1.1))&&(decide (x26.1.2.1=x28.1.2.1)))&&((f21 x26.1.2.2 x28.1.2.2).getD default))&&(decide (x26.2=x28.2)))),(true,.bool ((((decide (x26.1.1=x28.1.1))&&(decide (x26.1.2.1=x28.1.2.1)))&&((f21 x26.1.2.2 x28.1.2.2).getD default))&&(decide (x26.2=x28.2))))] [[],[0],[],[2],[1,3],[4],[5],[6,5],[5],[8,5],[7,9,5],[10,5],[11],[12],[13,12],[12],[15,12],[14,16,12],[17,12],[18],[19],[19],[20,21,19],[22,19],[23]] [24] rfl rfl rfl rfl rfl ⟨?_,?_,?_,?_,?_,?_,?_,?_,?_,?_,?_,?_,?_,?_,?_,?_,?_,?_,?_,?_,?_,?_,?_,?_,?_,trivial⟩ (zAD ⟨rfl,trivial⟩) ?_
      ·exact oB wfp
      ·exact oB wlp
      ·exact oB wfp
      ·exact oB wlp
      ·exact oB weq
      ·exact oB wm
      ·exact oB wfp
      ·exact oB wlp
      ·exact oB wfp
      ·exact oB wlp
      ·exact oB wes
      ·exact zBe
      ·exact oB wm
      ·exact oB wfp
      ·exact oB wlp
      ·exact oB wfp
      ·exact oB wlp
      ·exact zAr ⟨rfl,rfl,rfl,_,rfl,rfl⟩ (fun hg=>zAD ⟨hg,hg,rfl,trivial⟩) (fun hg=>zAV (zCI (zAz h30 hg)).x ent21 rfl rfl)
      ·exact zBe
      ·exact oB wm
      ·exact oB wm
      ·exact oB wm
      ·exact oB weq
      ·exact zBe
      ·exact oB wa
      obtain rfl:=Option.some.inj hr
      exact zAZ (zAw (zAE (zAC (zAe (l':=[(6,.bool ((((decide (x26.1.1=x28.1.1))&&(decide (x26.1.2.1=x28.1.2.1)))&&((f21 x26.1.2.2 x28.1.2.2).getD default))&&(decide (x26.2=x28.2))))]) (Hs:=[(0,.tr E76 (some p0_0)),(1,.tr E80 (some p1_0))]) (n:=2) (zAA hX [0,1] 4 rfl rfl wS wO) rfl rfl rfl ⟨rfl,trivial⟩))))
     ·refine sq<|rg<|V veq<|V va<|nl<|an<|?_
      refine cnd (fun hc31 hr=>?_) (fun hc31 hr=>?_)
      ·obtain ⟨x32,e33,hr⟩:=zA hr
       refine sq<|rg<|V vm<|V vfp<|V vlp<|V vfp<|V vlp<|V vfp<|V vlp<|?_
       refine zAG (zAd (i:=0) (W76 p0_0 3 4) [.map .i Y4 p0_0.2.1,.map .i Y5 p0_0.2.2.1] rfl rfl rfl rfl)<|?_
       refine zAK (zAp (as':=[.ptr 0 0,.i p2.2.1,.str p2.2.2.2.2.2.1,.str p2.2.2.2.2.2.2.1]) (f19_runs e33).x ent19 rfl ⟨cv0,cv0,cv0,cv0,trivial⟩ rfl rfl rfl ?_)
       obtain ⟨x34,e35,hr⟩:=zA hr
       refine V vm<|V vx<|V vx<|V va<|V va<|nl<|an<|sq<|rg<|V vm<|V vfp<|V vlp<|V vfp<|V vlp<|V vfp<|V vlp<|?_
       refine zAG (zAd (i:=1) [.sl Y2 p1_0.1,.osl 6,.osl 7,.i p1_0.2.2.2.1,.i p1_0.2.2.2.2] [.sl 54 Y4 p1_0.2.1,.sl 42 Y5 p1_0.2.2.1] rfl rfl rfl rfl)<|?_
       refine zAK (zAp (as':=[.ptr 1 0,.i p2.2.1,.str p2.2.2.2.2.2.1,.str p2.2.2.2.2.2.2.1]) (f37_runs e35).x ent37 rfl ⟨cv0,cv0,cv0,cv0,trivial⟩ rfl rfl rfl ?_)
       obtain ⟨x36,e37,hr⟩:=zA hr
       refine V vm<|V vx<|V vx<|V va<|V va<|nl<|an<|sq<|?_
       refine zAa [0,1,5,19,20,21,22] [(true,.osl 5),(true,.osl 8),(true,.bool x36),(true,.bool x36),(x36,.i x32.1),(x36,.i x34.1),(x36,.bool (decide (x32.1=x34.1))),(true,.bool (x36&&(decide (x32.1=x34.1)))),(true,.bool (x36&&(decide (x32.1=x34.1))))] [[],[],[0,1],[2],[3],[3],[4,5,3],[6,3],[7]] [8] rfl rfl rfl rfl rfl ⟨?_,?_,?_,?_,?_,?_,?_,?_,?_,trivial⟩ (zAD ⟨rfl,trivial⟩) ?_
       ·exact oB wm
       ·exact oB wm
       ·exact zAr rfl (fun hg=>zAD ⟨rfl,rfl,trivial⟩) (fun hg=>zAj (as':=[.osl 5,.osl 8]) (zCI e37).x ent21 rfl ⟨cv0,cv0,trivial⟩ rfl rfl)
       ·exact oB wm
       ·exact oB wm
       ·exact oB wm
       ·exact oB weq
       ·exact zBe
       ·exact oB wa
       obtain rfl:=Option.some.inj hr
       exact zAZ (zAw (zAE (zAC (zAe (l':=[(6,.bool (x36&&(decide (x32.1=x34.1))))]) (Hs:=[(0,.tr E76 (some p0_0)),(1,.tr E80 (some p1_0))]) (n:=2) (Wk.trans (zAT (i:=0) (T:=76) (e:=F76) (js:=[3,4]) p0_0 rfl (⟨[.sl Y2 p0_0.1],[.map 3,.map 4,.i p0_0.2.2.2.1,.i p0_0.2.2.2.2],[],[3,4],rfl,rfl,⟨rfl,rfl,rfl⟩,⟨[.map 3],[.map 4,.i p0_0.2.2.2.1,.i p0_0.2.2.2.2],[3],[4],rfl,rfl,⟨3,rfl,rfl,rfl⟩,⟨[.map 4],[.i p0_0.2.2.2.1,.i p0_0.2.2.2.2],[4],[],rfl,rfl,⟨4,rfl,rfl,rfl⟩,⟨[.i p0_0.2.2.2.1],[.i p0_0.2.2.2.2],[],[],rfl,rfl,⟨rfl,rfl,rfl⟩,⟨rfl,rfl,rfl⟩⟩⟩⟩⟩) rfl) (Wk.trans (zAT (i:=1) (T:=80) (e:=F80) (js:=[6,7]) p1_0 rfl (⟨[.sl Y2 p1_0.1],[.osl 6,.osl 7,.i p1_0.2.2.2.1,.i p1_0.2.2.2.2],[],[6,7],rfl,rfl,⟨rfl,rfl,rfl⟩,⟨[.osl 6],[.osl 7,.i p1_0.2.2.2.1,.i p1_0.2.2.2.2],[6],[7],rfl,rfl,.inl ⟨6,rfl,rfl,rfl⟩,⟨[.osl 7],[.i p1_0.2.2.2.1,.i p1_0.2.2.2.2],[7],[],rfl,rfl,.inl ⟨7,rfl,rfl,rfl⟩,⟨[.i p1_0.2.2.2.1],[.i p1_0.2.2.2.2],[],[],rfl,rfl,⟨rfl,rfl,rfl⟩,⟨rfl,rfl,rfl⟩⟩⟩⟩⟩) rfl) (zAA hX [0,1] 4 rfl rfl wS wO))) rfl rfl rfl ⟨rfl,trivial⟩))))
      ·refine sq<|rg<|V veq<|V va<|nl<|an<|?_
       refine cnd (fun hc38 hr=>?_) (fun hc38 hr=>?_)
       ·obtain ⟨x39,e40,hr⟩:=zA hr
        refine sq<|rg<|V vm<|V vfp<|V vlp<|V vfp<|V vlp<|V vfp<|V vlp<|V vfp<|V vlp<|?_
        refine zAG (zAd (i:=0) (W76 p0_0 3 4) [.map .i Y4 p0_0.2.1,.map .i Y5 p0_0.2.2.1] rfl rfl rfl rfl)<|?_
        refine zAK (zAp (as':=[.ptr 0 0,.i p2.2.1,.str p2.2.2.2.2.2.1,.str p2.2.2.2.2.2.2.1,.str p2.2.2.2.2.2.2.2.1]) (f38_runs e40).x ent38 rfl ⟨cv0,cv0,cv0,cv0,cv0,trivial⟩ rfl rfl rfl ?_)
        obtain ⟨x41,e42,hr⟩:=zA hr
        refine V vm<|V vx<|V vx<|V va<|V va<|nl<|an<|sq<|rg<|V vm<|V vfp<|V vlp<|V vfp<|V vlp<|V vfp<|V vlp<|V vfp<|V vlp<|?_
        refine zAG (zAd (i:=1) [.sl Y2 p1_0.1,.osl 6,.osl 7,.i p1_0.2.2.2.1,.i p1_0.2.2.2.2] [.sl 54 Y4 p1_0.2.1,.sl 42 Y5 p1_0.2.2.1] rfl rfl rfl rfl)<|?_
        refine zAK (zAp (as':=[.ptr 1 0,.i p2.2.1,.str p2.2.2.2.2.2.1,.str p2.2.2.2.2.2.2.1,.str p2.2.2.2.2.2.2.2.1]) (f39_runs e42).x ent39 rfl ⟨cv0,cv0,cv0,cv0,cv0,trivial⟩ rfl rfl rfl ?_)
        obtain ⟨x43,e44,hr⟩:=zA hr
        refine V vm<|V vx<|V vx<|V va<|V va<|nl<|an<|sq<|?_
        refine zAa [0,1,5,23,24,25,26] [(true,.osl 5),(true,.osl 8),(true,.bool x43),(true,.bool x43),(x43,.i x39.1),(x43,.i x41.1),(x43,.bool (decide (x39.1=x41.1))),(true,.bool (x43&&(decide (x39.1=x41.1)))),(true,.bool (x43&&(decide (x39.1=x41.1))))] [[],[],[0,1],[2],[3],[3],[4,5,3],[6,3],[7]] [8] rfl rfl rfl rfl rfl ⟨?_,?_,?_,?_,?_,?_,?_,?_,?_,trivial⟩ (zAD ⟨rfl,trivial⟩) ?_
        ·exact oB wm
        ·exact oB wm
        ·exact zAr rfl (fun hg=>zAD ⟨rfl,rfl,trivial⟩) (fun hg=>zAj (as':=[.osl 5,.osl 8]) (zCI e44).x ent21 rfl ⟨cv0,cv0,trivial⟩ rfl rfl)
        ·exact oB wm
        ·exact oB wm
        ·exact oB wm
        ·exact oB weq
        ·exact zBe
        ·exact oB wa
        obtain rfl:=Option.some.inj hr
        exact zAZ (zAw (zAE (zAC (zAe (l':=[(6,.bool (x43&&(decide (x39.1=x41.1))))]) (Hs:=[(0,.tr E76 (some p0_0)),(1,.tr E80 (some p1_0))]) (n:=2) (Wk.trans (zAT (i:=0) (T:=76) (e:=F76) (js:=[3,4]) p0_0 rfl (⟨[.sl Y2 p0_0.1],[.map 3,.map 4,.i p0_0.2.2.2.1,.i p0_0.2.2.2.2],[],[3,4],rfl,rfl,⟨rfl,rfl,rfl⟩,⟨[.map 3],[.map 4,.i p0_0.2.2.2.1,.i p0_0.2.2.2.2],[3],[4],rfl,rfl,⟨3,rfl,rfl,rfl⟩,⟨[.map 4],[.i p0_0.2.2.2.1,.i p0_0.2.2.2.2],[4],[],rfl,rfl,⟨4,rfl,rfl,rfl⟩,⟨[.i p0_0.2.2.2.1],[.i p0_0.2.2.2.2],[],[],rfl,rfl,⟨rfl,rfl,rfl⟩,⟨rfl,rfl,rfl⟩⟩⟩⟩⟩) rfl) (Wk.trans (zAT (i:=1) (T:=80) (e:=F80) (js:=[6,7]) p1_0 rfl (⟨[.sl Y2 p1_0.1],[.osl 6,.osl 7,.i p1_0.2.2.2.1,.i p1_0.2.2.2.2],[],[6,7],rfl,rfl,⟨rfl,rfl,rfl⟩,⟨[.osl 6],[.osl 7,.i p1_0.2.2.2.1,.i p1_0.2.2.2.2],[6],[7],rfl,rfl,.inl ⟨6,rfl,rfl,rfl⟩,⟨[.osl 7],[.i p1_0.2.2.2.1,.i p1_0.2.2.2.2],[7],[],rfl,rfl,.inl ⟨7,rfl,rfl,rfl⟩,⟨[.i p1_0.2.2.2.1],[.i p1_0.2.2.2.2],[],[],rfl,rfl,⟨rfl,rfl,rfl⟩,⟨rfl,rfl,rfl⟩⟩⟩⟩⟩) rfl) (zAA hX [0,1] 4 rfl rfl wS wO))) rfl rfl rfl ⟨rfl,trivial⟩))))
       ·refine sq<|rg<|V veq<|V va<|nl<|an<|?_
        refine cnd (fun hc45 hr=>?_) (fun hc45 hr=>?_)
        ·obtain ⟨x46,e47,hr⟩:=zA hr
         refine sq<|rg<|V vm<|V vfp<|V vlp<|V vfp<|V vlp<|?_
         refine zAK (zAP (σ:=[0]) (as':=[.ptr 0 0,.i p2.2.1,.i p2.2.2.2.1]) (f12_runs e47).x ent12 rfl ⟨cv0,cv0,cv0,trivial⟩ rfl rfl rfl ?_)
         obtain ⟨x48,e49,hr⟩:=zA hr
         refine V vm<|V vx<|V vx<|V vx<|V vx<|V va<|V va<|V va<|V va<|nl<|an<|sq<|rg<|V vm<|V vfp<|V vlp<|V vfp<|V vlp<|?_
         refine zAG (zAd (i:=1) [.sl Y2 p1_0.1,.osl 3,.osl 4,.i p1_0.2.2.2.1,.i p1_0.2.2.2.2] [.sl 54 Y4 p1_0.2.1,.sl 42 Y5 p1_0.2.2.1] rfl rfl rfl rfl)<|?_
         refine zAK (zAp (as':=[.ptr 1 0,.i p2.2.1,.i p2.2.2.2.1]) (f40_runs e49).x ent40 rfl ⟨cv0,cv0,cv0,trivial⟩ rfl rfl rfl ?_)
         obtain ⟨x50,e51,hr⟩:=zA hr
         refine V vm<|V vx<|V vx<|V vx<|V vx<|V va<|V va<|V va<|V va<|nl<|an<|sq<|?_
         obtain ⟨h52,hr⟩:=zAN hr
         obtain ⟨h53,hr⟩:=zAN hr
         refine zAa [0,1,5,27,28,29,30,31,32,33,34] [(true,.sl .i x46.1),(true,.osl 5),(true,.bool x50),(true,.bool x50),(x50,.sl .i x46.2.1),(x50,.osl 6),(x50,.bool ((f21 x46.2.1 x48.2.2.1).getD default)),(true,.bool (x50&&((f21 x46.2.1 x48.2.2.1).getD default))),(true,.bool (x50&&((f21 x46.2.1 x48.2.2.1).getD default))),(x50&&((f21 x46.2.1 x48.2.2.1).getD default),.sl .i x46.2.2.1),(x50&&((f21 x46.2.1 x48.2.2.1).getD default),.osl 7),(x50&&((f21 x46.2.1 x48.2.2.1).getD default),.bool ((f21 x46.2.2.1 x48.2.2.2).getD default)),(true,.bool ((x50&&((f21 x46.2.1 x48.2.2.1).getD default))&&((f21 x46.2.2.1 x48.2.2.2).getD default))),(true,.bool ((x50&&((f21 x46.2.1 x48.2.2.1).getD default))&&((f21 x46.2.2.1 x48.2.2.2).getD default))),((x50&&((f21 x46.2.1 x48.2.2.1).getD default))&&((f21 x46.2.2.1 x48.2.2.2).getD default),.i x46.2.2.2),((x50&&((f21 x46.2.1 x48.2.2.1).getD default))&&((f21 x46.2.2.1 x48.2.2.2).getD default),.i x48.1),((x50&&((f21 x46.2.1 x48.2.2.1).getD default))&&((f21 x46.2.2.1 x48.2.2.2).getD default),.bool (decide (x46.2.2.2=x48.1))),(true,.bool (((x50&&((f21 x46.2.1 x48.2.2.1).getD default))&&((f21 x46.2.2.1 x48.2.2.2).getD default))&&(decide (x46.2.2.2=x48.1)))),(true,.bool (((x50&&((f21 x46.2.1 x48.2.2.1).getD default))&&((f21 x46.2.2.1 x48.2.2.2).getD default))&&(decide (x46.2.2.2=x48.1))))] [[],[],[0,1],[2],[3],[3],[4,5,3],[6,3],[7],[8],[8],[9,10,8],[11,8],[12],[13],[13],[14,15,13],[16,13],[17]] [18] rfl rfl rfl rfl rfl ⟨?_,?_,?_,?_,?_,?_,?_,?_,?_,?_,?_,?_,?_,?_,?_,?_,?_,?_,?_,trivial⟩ (zAD ⟨rfl,trivial⟩) ?_
         ·exact oB wm
         ·exact oB wm
         ·exact zAr rfl (fun hg=>zAD ⟨rfl,rfl,trivial⟩) (fun hg=>zAj (as':=[.sl .i x46.1,.osl 5]) (zCI e51).x ent21 rfl ⟨cv0,cv0,trivial⟩ rfl rfl)
         ·exact oB wm
         ·exact oB wm
         ·exact oB wm
         ·exact zAr ⟨rfl,rfl,rfl,_,rfl,rfl⟩ (fun hg=>zAD ⟨hg,hg,rfl,trivial⟩) (fun hg=>zAj (as':=[.sl .i x46.2.1,.osl 6]) (zCI (zAz h52 hg)).x ent21 rfl ⟨cv0,cv0,trivial⟩ rfl rfl)
         ·exact zBe
         ·exact oB wm
         ·exact oB wm
         ·exact oB wm
         ·exact zAr ⟨rfl,rfl,rfl,_,rfl,rfl⟩ (fun hg=>zAD ⟨hg,hg,rfl,trivial⟩) (fun hg=>zAj (as':=[.sl .i x46.2.2.1,.osl 7]) (zCI (zAz h53 hg)).x ent21 rfl ⟨cv0,cv0,trivial⟩ rfl rfl)
         ·exact zBe
         ·exact oB wm
         ·exact oB wm
         ·exact oB wm
         ·exact oB weq
         ·exact zBe
         ·exact oB wa
         obtain rfl:=Option.some.inj hr
         exact zAZ (zAw (zAE (zAC (zAe (l':=[(6,.bool (((x50&&((f21 x46.2.1 x48.2.2.1).getD default))&&((f21 x46.2.2.1 x48.2.2.2).getD default))&&(decide (x46.2.2.2=x48.1))))]) (Hs:=[(0,.tr E76 (some p0_0)),(1,.tr E80 (some p1_0))]) (n:=2) (Wk.trans (zAT (i:=1) (T:=80) (e:=F80) (js:=[3,4]) p1_0 rfl (⟨[.sl Y2 p1_0.1],[.osl 3,.osl 4,.i p1_0.2.2.2.1,.i p1_0.2.2.2.2],[],[3,4],rfl,rfl,⟨rfl,rfl,rfl⟩,⟨[.osl 3],[.osl 4,.i p1_0.2.2.2.1,.i p1_0.2.2.2.2],[3],[4],rfl,rfl,.inl ⟨3,rfl,rfl,rfl⟩,⟨[.osl 4],[.i p1_0.2.2.2.1,.i p1_0.2.2.2.2],[4],[],rfl,rfl,.inl ⟨4,rfl,rfl,rfl⟩,⟨[.i p1_0.2.2.2.1],[.i p1_0.2.2.2.2],[],[],rfl,rfl,⟨rfl,rfl,rfl⟩,⟨rfl,rfl,rfl⟩⟩⟩⟩⟩) rfl) (zAA hX [0,1] 4 rfl rfl wS wO)) rfl rfl rfl ⟨rfl,trivial⟩))))
        ·refine sq<|rg<|V veq<|V va<|nl<|an<|?_
         refine cnd (fun hc54 hr=>?_) (fun hc54 hr=>?_)
         ·obtain ⟨x55,e56,hr⟩:=zA hr
          refine sq<|rg<|V vm<|V vfp<|V vlp<|V vfp<|V vlp<|?_
          refine zAK (zAP (σ:=[0]) (as':=[.ptr 0 0,.i p2.2.1,.i p2.2.2.1]) (f18_runs e56).x ent18 rfl ⟨cv0,cv0,cv0,trivial⟩ rfl rfl rfl ?_)
          obtain ⟨x57,e58,hr⟩:=zA hr
          refine V vm<|V vx<|V vx<|V vx<|V va<|V va<|V va<|nl<|an<|sq<|rg<|V vm<|V vfp<|V vlp<|V vfp<|V vlp<|?_
          refine zAK (zAP (σ:=[1]) (as':=[.ptr 1 0,.i p2.2.1,.i p2.2.2.1]) (f41_runs e58).x ent41 rfl ⟨cv0,cv0,cv0,trivial⟩ rfl rfl rfl ?_)
          obtain ⟨x59,e60,hr⟩:=zA hr
          refine V vm<|V vx<|V vx<|V vx<|V va<|V va<|V va<|nl<|an<|sq<|?_
          obtain ⟨h61,hr⟩:=zAN hr
          refine zAa [0,1,5,35,36,37,38,39,40] [(true,.sl Y6 x55.1),(true,.sl Y6 x57.1),(true,.bool x59),(true,.bool x59),(x59,.sl Y6 x55.2.1),(x59,.sl Y6 x57.2.1),(x59,.bool ((f42 x55.2.1 x57.2.1).getD default)),(true,.bool (x59&&((f42 x55.2.1 x57.2.1).getD default))),(true,.bool (x59&&((f42 x55.2.1 x57.2.1).getD default))),(x59&&((f42 x55.2.1 x57.2.1).getD default),.i x55.2.2.1),(x59&&((f42 x55.2.1 x57.2.1).getD default),.i x57.2.2.1),(x59&&((f42 x55.2.1 x57.2.1).getD default),.bool (decide (x55.2.2.1=x57.2.2.1))),(true,.bool ((x59&&((f42 x55.2.1 x57.2.1).getD default))&&(decide (x55.2.2.1=x57.2.2.1)))),(true,.bool ((x59&&((f42 x55.2.1 x57.2.1).getD default))&&(decide (x55.2.2.1=x57.2.2.1))))] [[],[],[0,1],[2],[3],[3],[4,5,3],[6,3],[7],[8],[8],[9,10,8],[11,8],[12]] [13] rfl rfl rfl rfl rfl ⟨?_,?_,?_,?_,?_,?_,?_,?_,?_,?_,?_,?_,?_,?_,trivial⟩ (zAD ⟨rfl,trivial⟩) ?_
          ·exact oB wm
          ·exact oB wm
          ·exact zAr rfl (fun hg=>zAD ⟨rfl,rfl,trivial⟩) (fun hg=>zAV (f42_runs e60).x ent42 rfl rfl)
          ·exact oB wm
          ·exact oB wm
          ·exact oB wm
          ·exact zAr ⟨rfl,rfl,rfl,_,rfl,rfl⟩ (fun hg=>zAD ⟨hg,hg,rfl,trivial⟩) (fun hg=>zAV (f42_runs (zAz h61 hg)).x ent42 rfl rfl)
          ·exact zBe
          ·exact oB wm
          ·exact oB wm
          ·exact oB wm
          ·exact oB weq
          ·exact zBe
          ·exact oB wa
          obtain rfl:=Option.some.inj hr
          exact zAZ (zAw (zAE (zAC (zAe (l':=[(6,.bool ((x59&&((f42 x55.2.1 x57.2.1).getD default))&&(decide (x55.2.2.1=x57.2.2.1))))]) (Hs:=[(0,.tr E76 (some x55.2.2.2)),(1,.tr E80 (some x57.2.2.2))]) (n:=2) (zAA hX [0,1] 4 rfl rfl wS wO) rfl rfl rfl ⟨rfl,trivial⟩))))
         ·refine sq<|rg<|V veq<|V va<|nl<|an<|?_
          refine cnd (fun hc62 hr=>?_) (fun hc62 hr=>?_)
          ·obtain ⟨x63,e64,hr⟩:=zA hr
           refine sq<|rg<|V vm<|V vfp<|V vlp<|V vfp<|V vlp<|?_
           refine zAK (zAP (σ:=[0]) (as':=[.ptr 0 0,.i p2.2.1,.i p2.2.2.1]) (f43_runs e64).x ent43 rfl ⟨cv0,cv0,cv0,trivial⟩ rfl rfl rfl ?_)
           obtain ⟨x65,e66,hr⟩:=zA hr
           refine V vm<|V vx<|V vx<|V va<|V va<|nl<|an<|sq<|rg<|V vm<|V vfp<|V vlp<|V vfp<|V vlp<|?_
           refine zAK (zAP (σ:=[1]) (as':=[.ptr 1 0,.i p2.2.1,.i p2.2.2.1]) (f44_runs e66).x ent44 rfl ⟨cv0,cv0,cv0,trivial⟩ rfl rfl rfl ?_)
           obtain ⟨x67,e68,hr⟩:=zA hr
           refine V vm<|V vx<|V vx<|V va<|V va<|nl<|an<|sq<|?_
           refine zAa [0,1,5,41,42,43,44] [(true,.sl .i x63.1),(true,.sl .i x65.1),(true,.bool x67),(true,.bool x67),(x67,.i x63.2.1),(x67,.i x65.2.1),(x67,.bool (decide (x63.2.1=x65.2.1))),(true,.bool (x67&&(decide (x63.2.1=x65.2.1)))),(true,.bool (x67&&(decide (x63.2.1=x65.2.1))))] [[],[],[0,1],[2],[3],[3],[4,5,3],[6,3],[7]] [8] rfl rfl rfl rfl rfl ⟨?_,?_,?_,?_,?_,?_,?_,?_,?_,trivial⟩ (zAD ⟨rfl,trivial⟩) ?_
           ·exact oB wm
           ·exact oB wm
           ·exact zAr rfl (fun hg=>zAD ⟨rfl,rfl,trivial⟩) (fun hg=>zAV (zCI e68).x ent21 rfl rfl)
           ·exact oB wm
           ·exact oB wm
           ·exact oB wm
           ·exact oB weq
           ·exact zBe
           ·exact oB wa
           obtain rfl:=Option.some.inj hr
           exact zAZ (zAw (zAE (zAC (zAe (l':=[(6,.bool (x67&&(decide (x63.2.1=x65.2.1))))]) (Hs:=[(0,.tr E76 (some x63.2.2)),(1,.tr E80 (some x65.2.2))]) (n:=2) (zAA hX [0,1] 4 rfl rfl wS wO) rfl rfl rfl ⟨rfl,trivial⟩))))
          ·refine sq<|rg<|V veq<|V va<|nl<|an<|?_
           refine cnd (fun hc69 hr=>?_) (fun hc69 hr=>?_)
           ·obtain ⟨x70,e71,hr⟩:=zA hr
            refine sq<|rg<|V vm<|V vfp<|V vlp<|?_
            refine zAK (zAP (σ:=[0]) (as':=[.ptr 0 0,.i p2.2.1]) (f20_runs e71).x ent20 rfl ⟨cv0,cv0,trivial⟩ rfl rfl rfl ?_)
            obtain ⟨x72,e73,hr⟩:=zA hr
            refine V vm<|V vx<|V vx<|V vx<|V va<|V va<|V va<|nl<|an<|sq<|rg<|V vm<|V vfp<|V vlp<|?_
            refine zAK (zAP (σ:=[1]) (as':=[.ptr 1 0,.i p2.2.1]) (f45_runs e73).x ent45 rfl ⟨cv0,cv0,trivial⟩ rfl rfl rfl ?_)
            obtain ⟨x74,e75,hr⟩:=zA hr
            refine V vm<|V vx<|V vx<|V vx<|V va<|V va<|V va<|nl<|an<|sq<|?_
            obtain ⟨h76,hr⟩:=zAN hr
            refine zAa [0,1,5,45,46,47,48,49,50] [(true,.sl .i x70.1),(true,.sl .i x72.1),(true,.bool x74),(true,.bool x74),(x74,.sl .i x70.2.1),(x74,.sl .i x72.2.1),(x74,.bool ((f21 x70.2.1 x72.2.1).getD default)),(true,.bool (x74&&((f21 x70.2.1 x72.2.1).getD default))),(true,.bool (x74&&((f21 x70.2.1 x72.2.1).getD default))),(x74&&((f21 x70.2.1 x72.2.1).getD default),.i x70.2.2.1),(x74&&((f21 x70.2.1 x72.2.1).getD default),.i x72.2.2.1),(x74&&((f21 x70.2.1 x72.2.1).getD default),.bool (decide (x70.2.2.1=x72.2.2.1))),(true,.bool ((x74&&((f21 x70.2.1 x72.2.1).getD default))&&(decide (x70.2.2.1=x72.2.2.1)))),(true,.bool ((x74&&((f21 x70.2.1 x72.2.1).getD default))&&(decide (x70.2.2.1=x72.2.2.1))))] [[],[],[0,1],[2],[3],[3],[4,5,3],[6,3],[7],[8],[8],[9,10,8],[11,8],[12]] [13] rfl rfl rfl rfl rfl ⟨?_,?_,?_,?_,?_,?_,?_,?_,?_,?_,?_,?_,?_,?_,trivial⟩ (zAD ⟨rfl,trivial⟩) ?_
            ·exact oB wm
            ·exact oB wm
            ·exact zAr rfl (fun hg=>zAD ⟨rfl,rfl,trivial⟩) (fun hg=>zAV (zCI e75).x ent21 rfl rfl)
            ·exact oB wm
            ·exact oB wm
            ·exact oB wm
            ·exact zAr ⟨rfl,rfl,rfl,_,rfl,rfl⟩ (fun hg=>zAD ⟨hg,hg,rfl,trivial⟩) (fun hg=>zAV (zCI (zAz h76 hg)).x ent21 rfl rfl)
            ·exact zBe
            ·exact oB wm
            ·exact oB wm
            ·exact oB wm
            ·exact oB weq
            ·exact zBe
            ·exact oB wa
            obtain rfl:=Option.some.inj hr
            exact zAZ (zAw (zAE (zAC (zAe (l':=[(6,.bool ((x74&&((f21 x70.2.1 x72.2.1).getD default))&&(decide (x70.2.2.1=x72.2.2.1))))]) (Hs:=[(0,.tr E76 (some x70.2.2.2)),(1,.tr E80 (some x72.2.2.2))]) (n:=2) (zAA hX [0,1] 4 rfl rfl wS wO) rfl rfl rfl ⟨rfl,trivial⟩))))
           ·refine sq<|rg<|V veq<|V va<|nl<|an<|?_
            refine cnd (fun hc77 hr=>?_) (fun hc77 hr=>?_)
            ·obtain ⟨x78,e79,hr⟩:=zA hr
             refine sq<|rg<|V vm<|V vfp<|V vlp<|V vfp<|V vlp<|?_
             refine zAG (zAd (i:=0) (W76 p0_0 3 4) [.map .i Y4 p0_0.2.1,.map .i Y5 p0_0.2.2.1] rfl rfl rfl rfl)<|?_
             refine zAK (zAp (as':=[.ptr 0 0,.i p2.2.1,.i p2.2.2.2.1]) (f46_runs e79).x ent46 rfl ⟨cv0,cv0,cv0,trivial⟩ rfl rfl rfl ?_)
             obtain ⟨x80,e81,hr⟩:=zA hr
             refine V vm<|V vx<|V vx<|V va<|V va<|nl<|an<|sq<|rg<|V vm<|V vfp<|V vlp<|V vfp<|V vlp<|?_
             refine zAG (zAd (i:=1) [.sl Y2 p1_0.1,.osl 6,.osl 7,.i p1_0.2.2.2.1,.i p1_0.2.2.2.2] [.sl 54 Y4 p1_0.2.1,.sl 42 Y5 p1_0.2.2.1] rfl rfl rfl rfl)<|?_
             refine zAK (zAp (as':=[.ptr 1 0,.i p2.2.1,.i p2.2.2.2.1]) (f47_runs e81).x ent47 rfl ⟨cv0,cv0,cv0,trivial⟩ rfl rfl rfl ?_)
             obtain ⟨x82,e83,hr⟩:=zA hr
             refine V vm<|V vx<|V vx<|V va<|V va<|nl<|an<|sq<|?_
             refine zAa [0,1,5,51,52,53,54] [(true,.osl 5),(true,.osl 8),(true,.bool x82),(true,.bool x82),(x82,.i x78.1),(x82,.i x80.1),(x82,.bool (decide (x78.1=x80.1))),(true,.bool (x82&&(decide (x78.1=x80.1)))),(true,.bool (x82&&(decide (x78.1=x80.1))))] [[],[],[0,1],[2],[3],[3],[4,5,3],[6,3],[7]] [8] rfl rfl rfl rfl rfl ⟨?_,?_,?_,?_,?_,?_,?_,?_,?_,trivial⟩ (zAD ⟨rfl,trivial⟩) ?_
             ·exact oB wm
             ·exact oB wm
             ·exact zAr rfl (fun hg=>zAD ⟨rfl,rfl,trivial⟩) (fun hg=>zAj (as':=[.osl 5,.osl 8]) (zCI e83).x ent21 rfl ⟨cv0,cv0,trivial⟩ rfl rfl)
             ·exact oB wm
             ·exact oB wm
             ·exact oB wm
             ·exact oB weq
             ·exact zBe
             ·exact oB wa
             obtain rfl:=Option.some.inj hr
             exact zAZ (zAw (zAE (zAC (zAe (l':=[(6,.bool (x82&&(decide (x78.1=x80.1))))]) (Hs:=[(0,.tr E76 (some p0_0)),(1,.tr E80 (some p1_0))]) (n:=2) (Wk.trans (zAT (i:=0) (T:=76) (e:=F76) (js:=[3,4]) p0_0 rfl (⟨[.sl Y2 p0_0.1],[.map 3,.map 4,.i p0_0.2.2.2.1,.i p0_0.2.2.2.2],[],[3,4],rfl,rfl,⟨rfl,rfl,rfl⟩,⟨[.map 3],[.map 4,.i p0_0.2.2.2.1,.i p0_0.2.2.2.2],[3],[4],rfl,rfl,⟨3,rfl,rfl,rfl⟩,⟨[.map 4],[.i p0_0.2.2.2.1,.i p0_0.2.2.2.2],[4],[],rfl,rfl,⟨4,rfl,rfl,rfl⟩,⟨[.i p0_0.2.2.2.1],[.i p0_0.2.2.2.2],[],[],rfl,rfl,⟨rfl,rfl,rfl⟩,⟨rfl,rfl,rfl⟩⟩⟩⟩⟩) rfl) (Wk.trans (zAT (i:=1) (T:=80) (e:=F80) (js:=[6,7]) p1_0 rfl (⟨[.sl Y2 p1_0.1],[.osl 6,.osl 7,.i p1_0.2.2.2.1,.i p1_0.2.2.2.2],[],[6,7],rfl,rfl,⟨rfl,rfl,rfl⟩,⟨[.osl 6],[.osl 7,.i p1_0.2.2.2.1,.i p1_0.2.2.2.2],[6],[7],rfl,rfl,.inl ⟨6,rfl,rfl,rfl⟩,⟨[.osl 7],[.i p1_0.2.2.2.1,.i p1_0.2.2.2.2],[7],[],rfl,rfl,.inl ⟨7,rfl,rfl,rfl⟩,⟨[.i p1_0.2.2.2.1],[.i p1_0.2.2.2.2],[],[],rfl,rfl,⟨rfl,rfl,rfl⟩,⟨rfl,rfl,rfl⟩⟩⟩⟩⟩) rfl) (zAA hX [0,1] 4 rfl rfl wS wO))) rfl rfl rfl ⟨rfl,trivial⟩))))
            ·obtain ⟨x84,e85,hr⟩:=zA hr
             refine sk<|bn<|an<|sq<|rg<|V vm<|V vfp<|V vlp<|V vfp<|V vlp<|?_
             refine zAK (zAP (σ:=[0]) (as':=[.ptr 0 0,.i p2.2.2.1,.str p2.2.2.2.2.1]) (f23_runs e85).x ent23 rfl ⟨cv0,cv0,cv0,trivial⟩ rfl rfl rfl ?_)
             obtain ⟨x86,e87,hr⟩:=zA hr
             refine V vm<|V vx<|V vx<|V va<|V va<|nl<|an<|sq<|rg<|V vm<|V vfp<|V vlp<|V vfp<|V vlp<|?_
             refine zAK (zAP (σ:=[1]) (as':=[.ptr 1 0,.i p2.2.2.1,.str p2.2.2.2.2.1]) (f48_runs e87).x ent48 rfl ⟨cv0,cv0,cv0,trivial⟩ rfl rfl rfl ?_)
             refine V vm<|V vx<|V vx<|V va<|V va<|nl<|an<|sq<|?_
             refine zAa [55,56,57,58] [(true,.i x84.1),(true,.i x86.1),(true,.bool (decide (x84.1=x86.1))),(true,.bool (decide (x84.1=x86.1))),(decide (x84.1=x86.1),.i x84.2.1),(decide (x84.1=x86.1),.i x86.2.1),(decide (x84.1=x86.1),.bool (decide (x84.2.1=x86.2.1))),(true,.bool ((decide (x84.1=x86.1))&&(decide (x84.2.1=x86.2.1)))),(true,.bool ((decide (x84.1=x86.1))&&(decide (x84.2.1=x86.2.1))))] [[],[],[0,1],[2],[3],[3],[4,5,3],[6,3],[7]] [8] rfl rfl rfl rfl rfl ⟨?_,?_,?_,?_,?_,?_,?_,?_,?_,trivial⟩ (zAD ⟨rfl,trivial⟩) ?_
             ·exact oB wm
             ·exact oB wm
             ·exact oB weq
             ·exact oB wm
             ·exact oB wm
             ·exact oB wm
             ·exact oB weq
             ·exact zBe
             ·exact oB wa
             obtain rfl:=Option.some.inj hr
             exact zAZ (zAw (zAe (l':=[(6,.bool ((decide (x84.1=x86.1))&&(decide (x84.2.1=x86.2.1))))]) (Hs:=[(0,.tr E76 (some x84.2.2)),(1,.tr E80 (some x86.2.2))]) (n:=2) (zAA hX [0,1] 4 rfl rfl wS wO) rfl rfl rfl ⟨rfl,trivial⟩))
 ·exact fun r h e st hne hx=>hx.elim
theorem ent6 : Enters Tryz.prog 6:=enters_of Tryz.func6 (by kernel_rfl) rfl
theorem ent7 : Enters Tryz.prog 7:=enters_of Tryz.func7 (by kernel_rfl) rfl
theorem ent9 : Enters Tryz.prog 9:=enters_of Tryz.func9 (by kernel_rfl) rfl
theorem ent10 : Enters Tryz.prog 10:=enters_of Tryz.func10 (by kernel_rfl) rfl
theorem ent11 : Enters Tryz.prog 11:=enters_of Tryz.func11 (by kernel_rfl) rfl
theorem f3_runs {p0:List (ZS)}{p1:List (ZA)}{p2:Int}{p3:Int}{r:Bool}(hr:f3 p0 p1 p2 p3=some r) : zBb Tryz.prog 3 [.sl Y2 p0,.sl Y3 p1,.i p2,.i p3] [.bool r]:=by
 refine zAW Tryz.func3 Tryz.ntmps3 rfl (rs:=[.tmp 8]) rfl rfl fun w0 X hX=>?_
 obtain ⟨x1,e2,hr⟩:=zA hr
 refine sq<|rg<|V va<|nl<|an<|sq<|sq<|rg<|V vm<|V vm<|?_
 refine V (zAV (f6_runs e2).x ent6 rfl rfl)<|V vno<|nl<|an<|?_
 refine cnd (fun hc3 hr=>?_) (fun hc3 hr=>?_)
 ·obtain ⟨x4,e5,hr⟩:=zA hr
  refine sq<|rg<|V (zAV (f7_runs e5).x ent7 rfl rfl)<|V va<|?_
  obtain rfl:=Option.some.inj hr
  exact nl<|an<|cr<|zAC (zAk (l':=[(8,.bool x4)]) (zAA hX [] 4 rfl rfl wS trivial) rfl ⟨rfl,trivial⟩)
 ·obtain ⟨x6,e7,hr⟩:=zA hr
  refine sk<|an<|sq<|rg<|V vm<|?_
  refine zAK (zAP (σ:=[]) (as':=[.sl Y2 p0]) (f8_runs e7).x ent8 rfl ⟨cv0,trivial⟩ rfl rfl rfl ?_)
  obtain ⟨x8,e9,hr⟩:=zA hr
  refine V vm<|V vx<|V vx<|V va<|V va<|nl<|an<|sq<|rg<|V vm<|?_
  refine zAK (zAP (σ:=[]) (as':=[.sl Y2 p0]) (f9_runs e9).x ent9 rfl ⟨cv0,trivial⟩ rfl rfl rfl ?_)
  refine V vm<|V vx<|V vx<|V va<|V va<|nl<|an<|sq<|sq<|rg<|V vm<|V vne<|nl<|an<|?_
  refine cnd (fun hc10 hr=>?_) (fun hc10 hr=>?_)
  ·obtain ⟨x11,e12,hr⟩:=zA hr
   refine sq<|rg<|V (zAV (f7_runs e12).x ent7 rfl rfl)<|V va<|?_
   obtain rfl:=Option.some.inj hr
   exact nl<|an<|cr<|zAC (zAk (l':=[(8,.bool x11)]) (zAA hX [] 4 rfl rfl wS trivial) rfl ⟨rfl,trivial⟩)
  ·obtain ⟨o22,e23,hr⟩:=zA hr
   refine sk<|an<|sq<|sq<|rg<|V vm<|V vnl<|V vm<|nl<|an<|bl<|?_
   refine zAb (t:=1) rfl (fun hl=>?_)
   refine zAI (S:=(Option (ZW))×(Option (ZR))) (R:=(Option (ZW))) (List.length p1 : Int) (f3_b0 p1) (fun p=>match p with | (i13,s15,s16)=>(⟨[(0,.sl Y2 p0),(2,.i p2),(3,.i p3),(8,.bool false),(9,.map 0),(11,.map 1),(49,.sl Y3 p1),(50,.i (List.length p1 : Int)),(51,.i i13)],[(0,.tr E76 s15),(1,.tr E80 s16)],2⟩ : AS)) (fun o e st=>match o with | .inl (s15,s16)=>e=.exit 0∧Wk X st ⟨[(0,.sl Y2 p0),(2,.i p2),(3,.i p3),(8,.bool false),(9,.map 0)],[(0,.tr E76 s15)],1⟩ | .inr s20=>e=.exit 0∧Wk X st ⟨[(0,.sl Y2 p0),(2,.i p2),(3,.i p3),(8,.bool false),(9,.map 0)],[(0,.tr E76 s20)],1⟩) (zAf hl) e23 (by exact zAA hX [0,1] 4 rfl rfl wS wO) ?_ ?_
   ·intro e st hx
    rcases o22 with ⟨s15,s16⟩ | s20
    ·obtain ⟨rfl,hw⟩:=hx
     obtain ⟨x24,e25,hr⟩:=zA hr
     obtain ⟨x26,e27,hr⟩:=zA hr
     refine bh<|an<|(zAY hw)<|sq<|rg<|V vm<|V vm<|V vm<|?_
     refine zAG (zA9 (t:=63) (i:=0) (T:=76) (e:=F76) (x:=x24) e25 rfl rfl)<|?_
     refine zAK (zAP (σ:=[0]) (as':=[.ptr 0 0,.i p2,.i p3]) (f12_runs e27).x ent12 rfl ⟨cv0,cv0,cv0,trivial⟩ rfl rfl rfl ?_)
     refine V vm<|V vx<|V vx<|V vx<|V vx<|V va<|V va<|V va<|V va<|nl<|an<|sq<|sq<|rg<|V vm<|V vne<|nl<|an<|?_
     refine cnd (fun hc28 hr=>?_) (fun hc28 hr=>?_)
     ·obtain ⟨x29,e30,hr⟩:=zA hr
      refine sq<|rg<|V (zAV (f7_runs e30).x ent7 rfl rfl)<|V va<|?_
      obtain rfl:=Option.some.inj hr
      exact nl<|an<|cr<|zAC (zAk (l':=[(8,.bool x29)]) (zAA hX [] 4 rfl rfl wS trivial) rfl ⟨rfl,trivial⟩)
     ·obtain ⟨x31,e32,hr⟩:=zA hr
      refine sk<|an<|sq<|sq<|rg<|V vm<|?_
      refine zAG (zA9 (t:=74) (i:=0) (T:=76) (e:=F76) (x:=x24) rfl rfl rfl)<|zAG (zAd (i:=0) (W76 x24 1 2) [.map .i Y4 x24.2.1,.map .i Y5 x24.2.2.1] rfl rfl rfl rfl)<|?_
      refine zAK (zAp (as':=[.ptr 0 0]) (f13_runs e32).x ent13 rfl ⟨cv0,trivial⟩ rfl rfl rfl ?_)
      obtain ⟨o35,e36,hr⟩:=zA hr
      refine V vnL<|V vm<|nl<|an<|bl<|?_
      refine zA5 (i:=3) rfl rfl (fun hl=>?_)
      refine zAI (List.length x31 : Int) (f3_b1 p0 p3 x24 x26 x31) (fun p=>match p with | (i33,())=>(⟨[(0,.sl Y2 p0),(2,.i p2),(3,.i p3),(8,.bool false),(9,.map 0),(15,.sl .i x26.1),(16,.sl .i x26.2.1),(17,.sl .i x26.2.2.1),(75,.osl 1),(76,.i (List.length x31 : Int)),(77,.i i33)],[(0,.tr E76 (some x24)),(1,.sl 3 .i x31)],2⟩ : AS)) (fun o e st=>match o with | .inl ()=>e=.exit 2∧Wk X st ⟨[(2,.i p2),(8,.bool false),(15,.sl .i x26.1)],[],0⟩ | .inr ()=>e=.ret∧Wk X st ⟨[(8,.bool false)],[],0⟩) (zAf hl) e36 (Wk.trans (zAT (i:=0) (T:=76) (e:=F76) (js:=[1,2]) x24 rfl (⟨[.sl Y2 x24.1],[.map 1,.map 2,.i x24.2.2.2.1,.i x24.2.2.2.2],[],[1,2],rfl,rfl,⟨rfl,rfl,rfl⟩,⟨[.map 1],[.map 2,.i x24.2.2.2.1,.i x24.2.2.2.2],[1],[2],rfl,rfl,⟨1,rfl,rfl,rfl⟩,⟨[.map 2],[.i x24.2.2.2.1,.i x24.2.2.2.2],[2],[],rfl,rfl,⟨2,rfl,rfl,rfl⟩,⟨[.i x24.2.2.2.1],[.i x24.2.2.2.2],[],[],rfl,rfl,⟨rfl,rfl,rfl⟩,⟨rfl,rfl,rfl⟩⟩⟩⟩⟩) rfl) (by exact zAA hX [0,3] 4 rfl rfl wS wO)) ?_ ?_
      ·intro e st hx
       rcases o35 with _ | _
       ·obtain ⟨rfl,hw⟩:=hx
        obtain ⟨x37,e38,hr⟩:=zA hr
        refine bh<|an<|(zAY hw)<|sq<|?_
        obtain ⟨h39,hr⟩:=zAN hr
        refine zAa [2,15] [(true,.sl .i x26.1),(true,.i p2),(true,.bool x37),(true,.bool x37),(x37,.bool ((f7).getD default)),(true,.bool (x37&&((f7).getD default))),(true,.bool (x37&&((f7).getD default)))] [[],[],[0,1],[2],[3],[4,3],[5]] [6] rfl rfl rfl rfl rfl ⟨?_,?_,?_,?_,?_,?_,?_,trivial⟩ (zAD ⟨rfl,trivial⟩) ?_
        ·exact oB wm
        ·exact oB wm
        ·exact zAr rfl (fun hg=>zAD ⟨rfl,rfl,trivial⟩) (fun hg=>zAV (zBY e38).x zB9 rfl rfl)
        ·exact oB wm
        ·exact zAr ⟨rfl,rfl,rfl,_,rfl,rfl⟩ (fun hg=>zAD ⟨rfl,trivial⟩) (fun hg=>zAV (f7_runs (zAz h39 hg)).x ent7 rfl rfl)
        ·exact zBe
        ·exact oB wa
        obtain rfl:=Option.some.inj hr
        exact zAZ (zAw (zAk (l':=[(8,.bool (x37&&((f7).getD default)))]) (zAA hX [] 4 rfl rfl wS trivial) rfl ⟨rfl,trivial⟩))
       ·obtain ⟨rfl,hw⟩:=hx
        obtain rfl:=Option.some.inj hr
        exact zAE (zAC (zAk (l':=[(8,.bool false)]) (Wk.trans hw (zAA hX [] 4 rfl rfl wS trivial)) rfl ⟨rfl,trivial⟩))
      ·rintro i33 _ o ho
       refine sq<|rg<|V vls<|nl<|an<|sq<|?_
       refine zAO (b:=decide (i33 < (List.length x31 : Int))) rfl (fun hc40=>?_) (fun hc40=>?_)
       ·obtain ⟨q,hr,rfl⟩:=zA7 hc40 ho
        obtain ⟨x41,e42,hr⟩:=zA hr
        obtain ⟨x43,e44,hr⟩:=zA hr
        refine sk<|an<|sq<|bl<|sq<|rg<|V (zAn (t:=.i) (undX 33 rfl) (szX 3 rfl) rfl rfl rfl e42)<|?_
        refine V (zAu (tsX 3 rfl) rfl rfl rfl (zCM e42) rfl)<|V va<|nl<|an<|sq<|rg<|V vm<|V vm<|?_
        refine zAG (zA9 (t:=82) (i:=0) (T:=76) (e:=F76) (x:=x24) rfl rfl rfl)<|?_
        refine zAK (zAP (σ:=[0]) (as':=[.ptr 0 0,.i x41]) (f14_runs e44).x ent14 rfl ⟨cv0,cv0,trivial⟩ rfl rfl rfl ?_)
        refine V vm<|V vx<|V vx<|O oa<|O os<|V va<|nl<|an<|sq<|sq<|rg<|V vm<|V vne<|nl<|an<|?_
        refine cnd (fun hc45 hr=>?_) (fun hc45 hr=>?_)
        ·refine sq<|rg<|V va<|?_
         obtain rfl:=Option.some.inj hr
         exact nl<|an<|cr<|zAC (zAE (zAC (⟨rfl,(zAA hX [] 4 rfl rfl wS trivial)⟩)))
        ·obtain ⟨o53,e54,hr⟩:=zA hr
         refine sk<|an<|sq<|rg<|V va<|V va<|nl<|an<|sq<|sq<|rg<|V vm<|V vnl<|V vm<|nl<|an<|bl<|?_
         refine zAb (t:=0) rfl (fun hl=>?_)
         refine zAI (List.length p0 : Int) (f3_b2 p0 p3 x26 x43) (fun p=>match p with | (i46,s47,s48)=>(⟨[(0,.sl Y2 p0),(2,.i p2),(3,.i p3),(8,.bool false),(9,.map 0),(15,.sl .i x26.1),(16,.sl .i x26.2.1),(17,.sl .i x26.2.2.1),(19,.i x41),(20,.ptr 1 0),(22,.bool s47),(23,.bool s48),(75,.osl 2),(76,.i (List.length x31 : Int)),(77,.i i33),(89,.sl Y2 p0),(90,.i (List.length p0 : Int)),(91,.i i46)],[(0,.tr E76 (some x24)),(1,.var 42 [.i x43.1.1,.str x43.1.2.1,.sl .i x43.1.2.2]),(2,.sl 3 .i x31)],3⟩ : AS)) (fun o e st=>match o with | .inr _=>False | .inl (s47,s48)=>e=.exit 4∧Wk X st ⟨[(0,.sl Y2 p0),(2,.i p2),(3,.i p3),(8,.bool false),(9,.map 0),(15,.sl .i x26.1),(16,.sl .i x26.2.1),(17,.sl .i x26.2.2.1),(19,.i x41),(20,.ptr 1 0),(22,.bool s47),(23,.bool s48),(75,.osl 2),(76,.i (List.length x31 : Int)),(77,.i i33)],[(0,.tr E76 (some x24)),(1,.var 42 [.i x43.1.1,.str x43.1.2.1,.sl .i x43.1.2.2]),(2,.sl 3 .i x31)],3⟩) (zAf hl) e54 (by exact zAA hX [0,2,1] 4 rfl rfl wS wO) ?_ ?_
         ·intro e st hx
          rcases o53 with ⟨s47,s48⟩ | _
          ·obtain ⟨rfl,hw⟩:=hx
           obtain ⟨x55,e56,hr⟩:=zA hr
           refine bh<|an<|(zAY hw)<|sq<|sq<|rg<|V vm<|V vm<|V vm<|?_
           refine V (zAV (zBY e56).x zB9 rfl rfl)<|?_
           refine V (av_neqb (undX 4 rfl) rfl rfl)<|nl<|an<|?_
           refine cnd (fun hc57 hr=>?_) (fun hc57 hr=>?_)
           ·refine sq<|rg<|V va<|?_
            obtain rfl:=Option.some.inj hr
            exact nl<|an<|cr<|zAC (zAE (zAC (⟨rfl,(zAA hX [] 4 rfl rfl wS trivial)⟩)))
           ·obtain ⟨o60,e61,hr⟩:=zA hr
            refine sk<|an<|sq<|rg<|V vfp<|V vlp<|V vnl<|V vm<|nl<|an<|bl<|?_
            refine zAb (t:=158) rfl (fun hl=>?_)
            refine zAI (List.length x43.1.2.2 : Int) (f3_b3 x26 x43 s47 s48) (fun p=>match p with | (i58,())=>(⟨[(0,.sl Y2 p0),(2,.i p2),(3,.i p3),(8,.bool false),(9,.map 0),(15,.sl .i x26.1),(16,.sl .i x26.2.1),(17,.sl .i x26.2.2.1),(22,.bool s47),(23,.bool s48),(75,.osl 1),(76,.i (List.length x31 : Int)),(77,.i i33),(158,.sl .i x43.1.2.2),(159,.i (List.length x43.1.2.2 : Int)),(160,.i i58)],[(0,.tr E76 (some x24)),(1,.sl 3 .i x31)],2⟩ : AS)) (fun o e st=>match o with | .inl ()=>e=.exit 8∧Wk X st ⟨[(0,.sl Y2 p0),(2,.i p2),(3,.i p3),(8,.bool false),(9,.map 0),(15,.sl .i x26.1),(16,.sl .i x26.2.1),(17,.sl .i x26.2.2.1),(75,.osl 1),(76,.i (List.length x31 : Int)),(77,.i i33)],[(0,.tr E76 (some x24)),(1,.sl 3 .i x31)],2⟩ | .inr ()=>e=.ret∧Wk X st ⟨[(8,.bool false)],[],0⟩) (zAf hl) e61 (by exact zAA hX [0,2] 4 rfl rfl wS wO) ?_ ?_
            ·intro e st hx
             rcases o60 with _ | _
             ·obtain ⟨rfl,hw⟩:=hx
              refine bh<|bn<|an<|(zAY hw)<|rg<|V vad<|V vm<|?_
              obtain rfl:=Option.some.inj hr
              exact zAJ ((zAA hX [0,1] 4 rfl rfl wS wO))
             ·obtain ⟨rfl,hw⟩:=hx
              obtain rfl:=Option.some.inj hr
              exact zAE (zAE (zAC (⟨rfl,(Wk.trans hw (zAA hX [] 4 rfl rfl wS trivial))⟩)))
            ·rintro i58 _ o ho
             refine sq<|rg<|V vls<|nl<|an<|sq<|?_
             refine zAO (b:=decide (i58 < (List.length x43.1.2.2 : Int))) rfl (fun hc62=>?_) (fun hc62=>?_)
             ·obtain ⟨q,hr,rfl⟩:=zA7 hc62 ho
              obtain ⟨x63,e64,hr⟩:=zA hr
              refine sk<|an<|sq<|bl<|sq<|rg<|V (zAQ (t:=.i) (e:=x63) (undX 33 rfl) (szX 3 rfl) rfl rfl e64)<|V vlr<|V va<|nl<|an<|sq<|?_
              obtain ⟨h65,hr⟩:=zAN hr
              obtain ⟨h66,hr⟩:=zAN hr
              obtain ⟨h67,hr⟩:=zAN hr
              refine zAa [0,2,3,8,9,15,16,17,22,23,75,76,77,158,159,160,30] [(true,.bool s48),(true,.bool s48),(s48,.sl .i x26.1),(s48,.i x63),(s48,.bool ((f15 x26.1 x63).getD default)),(s48,.bool (!((f15 x26.1 x63).getD default))),(true,.bool (s48&&(!((f15 x26.1 x63).getD default)))),(true,.bool (s48&&(!((f15 x26.1 x63).getD default)))),(!(s48&&(!((f15 x26.1 x63).getD default))),.bool s47),(!(s48&&(!((f15 x26.1 x63).getD default))),.bool s47),((!(s48&&(!((f15 x26.1 x63).getD default))))&&s47,.sl .i x26.1),((!(s48&&(!((f15 x26.1 x63).getD default))))&&s47,.i x63),((!(s48&&(!((f15 x26.1 x63).getD default))))&&s47,.bool ((f15 x26.1 x63).getD default)),((!(s48&&(!((f15 x26.1 x63).getD default))))&&s47,.bool (!((f15 x26.1 x63).getD default))),(!(s48&&(!((f15 x26.1 x63).getD default))),.bool (s47&&(!((f15 x26.1 x63).getD default)))),(!(s48&&(!((f15 x26.1 x63).getD default))),.bool (s47&&(!((f15 x26.1 x63).getD default)))),((!(s48&&(!((f15 x26.1 x63).getD default))))&&(s47&&(!((f15 x26.1 x63).getD default))),.sl .i x26.2.2.1),((!(s48&&(!((f15 x26.1 x63).getD default))))&&(s47&&(!((f15 x26.1 x63).getD default))),.i x63),((!(s48&&(!((f15 x26.1 x63).getD default))))&&(s47&&(!((f15 x26.1 x63).getD default))),.bool ((f15 x26.2.2.1 x63).getD default)),((!(s48&&(!((f15 x26.1 x63).getD default))))&&(s47&&(!((f15 x26.1 x63).getD default))),.bool (!((f15 x26.2.2.1 x63).getD default))),(!(s48&&(!((f15 x26.1 x63).getD default))),.bool ((s47&&(!((f15 x26.1 x63).getD default)))&&(!((f15 x26.2.2.1 x63).getD default)))),(true,.bool ((s48&&(!((f15 x26.1 x63).getD default)))||((s47&&(!((f15 x26.1 x63).getD default)))&&(!((f15 x26.2.2.1 x63).getD default)))))] [[],[0],[1],[1],[2,3,1],[4,1],[5,1],[6],[7],[8,7],[9],[9],[10,11,9],[12,9],[13,9,7],[14,7],[15],[15],[16,17,15],[18,15],[19,15,7],[20,7]] [21] rfl rfl rfl rfl rfl ⟨?_,?_,?_,?_,?_,?_,?_,?_,?_,?_,?_,?_,?_,?_,?_,?_,?_,?_,?_,?_,?_,?_,trivial⟩ (zAD ⟨rfl,trivial⟩) ?_
              ·exact oB wm
              ·exact oB wm
              ·exact oB wm
              ·exact oB wm
              ·exact zAr ⟨rfl,rfl,rfl,_,rfl,rfl⟩ (fun hg=>zAD ⟨hg,hg,rfl,trivial⟩) (fun hg=>zAV (zBY (zAz h65 hg)).x zB9 rfl rfl)
              ·exact oB wno
              ·exact zBe
              ·exact oB wm
              ·exact oB wm
              ·exact oB wm
              ·exact oB wm
              ·exact oB wm
              ·exact zAr ⟨rfl,rfl,rfl,_,rfl,rfl⟩ (fun hg=>zAD ⟨hg,hg,(zBO hg),trivial⟩) (fun hg=>zAV (zBY (zAz h66 hg)).x zB9 rfl rfl)
              ·exact oB wno
              ·exact zBC (b:=true) (p:=s47) (q:=!((f15 x26.1 x63).getD default)) ⟨rfl,rfl,rfl,_,rfl,rfl⟩ rfl rfl (fun hg=>zAD ⟨hg,rfl,trivial⟩) rfl rfl rfl rfl rfl
              ·exact oB wm
              ·exact oB wm
              ·exact oB wm
              ·exact zAr ⟨rfl,rfl,rfl,_,rfl,rfl⟩ (fun hg=>zAD ⟨hg,hg,(zBO hg),trivial⟩) (fun hg=>zAV (zBY (zAz h67 hg)).x zB9 rfl rfl)
              ·exact oB wno
              ·exact zBC (b:=true) (p:=s47&&(!((f15 x26.1 x63).getD default))) (q:=!((f15 x26.2.2.1 x63).getD default)) ⟨rfl,rfl,rfl,_,rfl,rfl⟩ rfl rfl (fun hg=>zAD ⟨hg,rfl,trivial⟩) rfl rfl rfl rfl rfl
              ·exact zBr
              refine an<|?_
              refine cnd (fun hc68 hr=>?_) (fun hc68 hr=>?_)
              ·refine sq<|rg<|V va<|?_
               obtain rfl:=Option.some.inj hr
               exact nl<|an<|cr<|zAE (zAC (⟨rfl,(zAA hX [] 4 rfl rfl wS trivial)⟩))
              ·refine sk<|bn<|an<|rg<|V vad<|V vm<|?_
               obtain rfl:=Option.some.inj hr
               exact zAJ ((zAA hX [0,1] 4 rfl rfl wS wO))
             ·obtain rfl:=zA8 hc62 ho
              exact zAH (zAF (⟨rfl,(zAA hX [0,1] 4 rfl rfl wS wO)⟩))
          ·exact hx.elim
         ·rintro i46 ⟨s47,s48⟩ o ho
          refine sq<|rg<|V vls<|nl<|an<|sq<|?_
          refine zAO (b:=decide (i46 < (List.length p0 : Int))) rfl (fun hc69=>?_) (fun hc69=>?_)
          ·obtain ⟨q,hr,rfl⟩:=zA7 hc69 ho
           obtain ⟨o72,e73,hr⟩:=zA hr
           refine sk<|an<|?_
           refine zAy (S:=Bool×Bool) (R:=Unit) (fun s=>match s with | (s70,s71)=>(⟨[(0,.sl Y2 p0),(2,.i p2),(3,.i p3),(8,.bool false),(9,.map 0),(15,.sl .i x26.1),(16,.sl .i x26.2.1),(17,.sl .i x26.2.2.1),(19,.i x41),(20,.ptr 1 0),(22,.bool s70),(23,.bool s71),(75,.osl 2),(76,.i (List.length x31 : Int)),(77,.i i33),(89,.sl Y2 p0),(90,.i (List.length p0 : Int)),(91,.i i46)],[(0,.tr E76 (some x24)),(1,.var 42 [.i x43.1.1,.str x43.1.2.1,.sl .i x43.1.2.2]),(2,.sl 3 .i x31)],3⟩ : AS)) (fun _ _ _=>False) e73 (fun hr=>?_) ?_ ?_
           ·obtain ⟨x74,e75,hr⟩:=zA hr
            refine bl<|sq<|rg<|V (zAQ (t:=Y2) (e:=x74) (undX 22 rfl) (szX 47 rfl) rfl rfl e75)<|V vlR<|O oa<|O os<|nl<|an<|sq<|sq<|rg<|V vfp<|V vlp<|V vfp<|V vlp<|V vns<|nl<|an<|?_
            refine cnd (fun hc76 hr=>?_) (fun hc76 hr=>?_)
            ·obtain rfl:=Option.some.inj hr
             exact zAH (zAF (zAl ((zAA hX [0,1,2] 4 rfl rfl wS wO))))
            ·obtain ⟨o84,e85,hr⟩:=zA hr
             refine sk<|an<|sq<|rg<|V vfp<|V vlp<|V vnl<|V vm<|nl<|an<|bl<|?_
             refine zAb (t:=101) rfl (fun hl=>?_)
             refine zAI (List.length x43.1.2.2 : Int) (f3_b4 p3 x26 x43 x74) (fun p=>match p with | (i77,s78,s79)=>(⟨[(0,.sl Y2 p0),(2,.i p2),(3,.i p3),(8,.bool false),(9,.map 0),(15,.sl .i x26.1),(16,.sl .i x26.2.1),(17,.sl .i x26.2.2.1),(19,.i x41),(20,.ptr 1 0),(22,.bool s78),(23,.bool s79),(25,.ptr 2 0),(75,.osl 3),(76,.i (List.length x31 : Int)),(77,.i i33),(89,.sl Y2 p0),(90,.i (List.length p0 : Int)),(91,.i i46),(101,.sl .i x43.1.2.2),(102,.i (List.length x43.1.2.2 : Int)),(103,.i i77)],[(0,.tr E76 (some x24)),(1,.var 42 [.i x43.1.1,.str x43.1.2.1,.sl .i x43.1.2.2]),(2,.var 47 [.str x74.1,.sl Y1 x74.2]),(3,.sl 3 .i x31)],4⟩ : AS)) (fun o e st=>match o with | .inr _=>False | .inl (s78,s79)=>e=.exit 6∧Wk X st ⟨[(0,.sl Y2 p0),(2,.i p2),(3,.i p3),(8,.bool false),(9,.map 0),(15,.sl .i x26.1),(16,.sl .i x26.2.1),(17,.sl .i x26.2.2.1),(19,.i x41),(20,.ptr 1 0),(22,.bool s78),(23,.bool s79),(75,.osl 2),(76,.i (List.length x31 : Int)),(77,.i i33),(89,.sl Y2 p0),(90,.i (List.length p0 : Int)),(91,.i i46)],[(0,.tr E76 (some x24)),(1,.var 42 [.i x43.1.1,.str x43.1.2.1,.sl .i x43.1.2.2]),(2,.sl 3 .i x31)],3⟩) (zAf hl) e85 (by exact zAA hX [0,1,3,2] 4 rfl rfl wS wO) ?_ ?_
             ·intro e st hx
              rcases o84 with ⟨s78,s79⟩ | _
              ·obtain ⟨rfl,hw⟩:=hx
               obtain rfl:=Option.some.inj hr
               exact zAl (zAS ((Wk.trans hw (zAA hX [0,1,2] 4 rfl rfl wS wO))))
              ·exact hx.elim
             ·rintro i77 ⟨s78,s79⟩ o ho
              refine sq<|rg<|V vls<|nl<|an<|sq<|?_
              refine zAO (b:=decide (i77 < (List.length x43.1.2.2 : Int))) rfl (fun hc86=>?_) (fun hc86=>?_)
              ·obtain ⟨q,hr,rfl⟩:=zA7 hc86 ho
               obtain ⟨x87,e88,hr⟩:=zA hr
               obtain ⟨x89,e90,hr⟩:=zA hr
               obtain ⟨x91,e92,hr⟩:=zA hr
               refine sk<|an<|sq<|bl<|sq<|rg<|V vm<|?_
               refine V (zAQ (t:=.i) (e:=x87) (undX 33 rfl) (szX 3 rfl) rfl rfl e88)<|V vlr<|V va<|V va<|nl<|an<|sq<|?_
               refine zBE mixed [0,2,3,8,9,15,16,17,19,20,22,23,25,75,76,77,89,90,91,101,102,103,26,27] [(true,.ptr 2 1),(true,.sl Y1 x74.2),(true,.i i77),(true,.rp [.str x89.1,.i x89.2.1,.i x89.2.2.1,.i x89.2.2.2.1,.i x89.2.2.2.2.1,.i x89.2.2.2.2.2]),(true,.rp [.i x89.2.2.2.1,.i x89.2.2.2.2.1,.i x89.2.2.2.2.2]),(true,.i x89.2.2.2.1),(true,.ptr 2 1),(true,.sl Y1 x74.2),(true,.i i77),(true,.rp [.str x89.1,.i x89.2.1,.i x89.2.2.1,.i x89.2.2.2.1,.i x89.2.2.2.2.1,.i x89.2.2.2.2.2]),(true,.rp [.i x89.2.2.2.2.1,.i x89.2.2.2.2.2]),(true,.i x89.2.2.2.2.1),(true,.ptr 2 1),(true,.sl Y1 x74.2),(true,.i i77),(true,.rp [.str x89.1,.i x89.2.1,.i x89.2.2.1,.i x89.2.2.2.1,.i x89.2.2.2.2.1,.i x89.2.2.2.2.2]),(true,.rp [.i x89.2.2.2.2.2]),(true,.i x89.2.2.2.2.2),(true,.sl .i [0,x89.2.2.2.1,x89.2.2.2.2.1,x89.2.2.2.2.2]),(true,.i p3),(true,.rp [.i x91]),(true,.i x91),(true,.i x91)] [[],[0],[],[1,2],[3],[4],[],[6],[],[7,8],[9],[10],[],[12],[],[13,14],[15],[16],[5,11,17],[],[18,19],[20],[21]] [22] rfl rfl rfl rfl rfl ⟨?_,?_,?_,?_,?_,?_,?_,?_,?_,?_,?_,?_,?_,?_,?_,?_,?_,?_,?_,?_,?_,?_,?_,trivial⟩ (zAD ⟨rfl,trivial⟩) ?_
               ·exact oB wfp
               ·exact oB wlp
               ·exact oB wm
               ·exact zAr rfl (fun hg=>zAD ⟨rfl,rfl,trivial⟩) (fun hg=>zAQ (t:=Y1) (e:=x89) (undX 45 rfl) (szX 49 rfl) rfl rfl e90)
               ·exact oB wfr
               ·exact oB wlr
               ·exact oB wfp
               ·exact oB wlp
               ·exact oB wm
               ·exact zAr rfl (fun hg=>zAD ⟨rfl,rfl,trivial⟩) (fun hg=>zAQ (t:=Y1) (e:=x89) (undX 45 rfl) (szX 49 rfl) rfl rfl e90)
               ·exact oB wfr
               ·exact oB wlr
               ·exact oB wfp
               ·exact oB wlp
               ·exact oB wm
               ·exact zAr rfl (fun hg=>zAD ⟨rfl,rfl,trivial⟩) (fun hg=>zAQ (t:=Y1) (e:=x89) (undX 45 rfl) (szX 49 rfl) rfl rfl e90)
               ·exact oB wfr
               ·exact oB wlr
               ·exact zAr rfl (fun hg=>zAD ⟨rfl,rfl,rfl,trivial⟩) (fun hg=>zAM (t:=.i) (qs:=[(0,[.i 0]),(1,[.i x89.2.2.2.1]),(2,[.i x89.2.2.2.2.1]),(3,[.i x89.2.2.2.2.2])]) (ys:=[0,x89.2.2.2.1,x89.2.2.2.2.1,x89.2.2.2.2.2]) bs33 rfl rfl rfl rfl rfl rfl rfl rfl)
               ·exact oB wm
               ·exact zAr rfl (fun hg=>zAD ⟨rfl,rfl,trivial⟩) (fun hg=>zAQ (t:=.i) (e:=x91) (undX 33 rfl) (szX 3 rfl) rfl rfl e92)
               ·exact oB wlr
               ·exact oB wa
               refine an<|sq<|?_
               obtain ⟨h93,hr⟩:=zAN hr
               refine zBy 10 [0,2,3,8,9,15,16,17,19,20,22,23,25,75,76,77,89,90,91,101,102,103,27,28] [(true,.bool s78),(true,.bool s78),(!s78,.sl .i x26.1),(!s78,.i x87),(!s78,.bool ((f15 x26.1 x87).getD default)),(!s78,.bool ((f15 x26.1 x87).getD default)),((!s78)&&((f15 x26.1 x87).getD default),.i x91),((!s78)&&((f15 x26.1 x87).getD default),.bool (!decide (x91=3))),(!s78,.bool (((f15 x26.1 x87).getD default)&&(!decide (x91=3)))),(true,.bool (s78||(((f15 x26.1 x87).getD default)&&(!decide (x91=3)))))] [[],[0],[1],[1],[2,3,1],[4,1],[5],[6,5],[7,5,1],[8,1]] [9] rfl rfl rfl rfl rfl rfl ⟨?_,?_,?_,?_,?_,?_,?_,?_,?_,?_,trivial⟩ (zAD ⟨rfl,trivial⟩) ?_
               ·exact oB wm
               ·exact oB wm
               ·exact oB wm
               ·exact oB wm
               ·exact zAr ⟨rfl,rfl,rfl,_,rfl,rfl⟩ (fun hg=>zAD ⟨hg,hg,rfl,trivial⟩) (fun hg=>zAV (zBY (zAz h93 hg)).x zB9 rfl rfl)
               ·exact oB wm
               ·exact oB wm
               ·exact oB wne
               ·exact zBC (b:=true) (p:=((f15 x26.1 x87).getD default)) (q:=!decide (x91=3)) ⟨rfl,rfl,rfl,_,rfl,rfl⟩ rfl rfl (fun hg=>zAD ⟨hg,rfl,trivial⟩) rfl rfl rfl rfl rfl
               ·exact zBr
               refine V va<|nl<|an<|?_
               obtain ⟨h94,hr⟩:=zAN hr
               refine zBy 10 [0,2,3,8,9,15,16,17,19,20,22,23,25,75,76,77,89,90,91,101,102,103,27,28] [(true,.bool s79),(true,.bool s79),(!s79,.sl .i x26.1),(!s79,.i x87),(!s79,.bool ((f15 x26.1 x87).getD default)),(!s79,.bool ((f15 x26.1 x87).getD default)),((!s79)&&((f15 x26.1 x87).getD default),.i x91),((!s79)&&((f15 x26.1 x87).getD default),.bool (decide (x91=1))),(!s79,.bool (((f15 x26.1 x87).getD default)&&(decide (x91=1)))),(true,.bool (s79||(((f15 x26.1 x87).getD default)&&(decide (x91=1)))))] [[],[0],[1],[1],[2,3,1],[4,1],[5],[6,5],[7,5,1],[8,1]] [9] rfl rfl rfl rfl rfl rfl ⟨?_,?_,?_,?_,?_,?_,?_,?_,?_,?_,trivial⟩ (zAD ⟨rfl,trivial⟩) ?_
               ·exact oB wm
               ·exact oB wm
               ·exact oB wm
               ·exact oB wm
               ·exact zAr ⟨rfl,rfl,rfl,_,rfl,rfl⟩ (fun hg=>zAD ⟨hg,hg,rfl,trivial⟩) (fun hg=>zAV (zBY (zAz h94 hg)).x zB9 rfl rfl)
               ·exact oB wm
               ·exact oB wm
               ·exact oB weq
               ·exact zBC (b:=true) (p:=((f15 x26.1 x87).getD default)) (q:=decide (x91=1)) ⟨rfl,rfl,rfl,_,rfl,rfl⟩ rfl rfl (fun hg=>zAD ⟨hg,rfl,trivial⟩) rfl rfl rfl rfl rfl
               ·exact zBr
               refine V va<|nl<|bn<|an<|rg<|V vad<|V vm<|?_
               obtain rfl:=Option.some.inj hr
               exact zAJ ((zAA hX [0,1,2,3] 4 rfl rfl wS wO))
              ·obtain rfl:=zA8 hc86 ho
               exact zAH (zAF (⟨rfl,(zAA hX [0,1,3] 4 rfl rfl wS wO)⟩))
           ·rintro ⟨s70,s71⟩ rfl
            refine rg<|V vad<|V vm<|?_
            obtain rfl:=Option.some.inj hr
            exact zAJ ((zAA hX [0,1,2] 4 rfl rfl wS wO))
           ·exact fun r h e st hne hx=>hx.elim
          ·obtain rfl:=zA8 hc69 ho
           exact zAH (zAF (⟨rfl,(zAA hX [0,1,2] 4 rfl rfl wS wO)⟩))
       ·obtain rfl:=zA8 hc40 ho
        exact zAH (zAF (⟨rfl,(zAA hX [] 4 rfl rfl wS trivial)⟩))
    ·obtain ⟨rfl,hw⟩:=hx
     obtain ⟨x95,e96,hr⟩:=zA hr
     obtain ⟨x97,e98,hr⟩:=zA hr
     refine bh<|an<|(zAY hw)<|sq<|rg<|V vm<|V vm<|V vm<|?_
     refine zAG (zA9 (t:=63) (i:=0) (T:=76) (e:=F76) (x:=x95) e96 rfl rfl)<|?_
     refine zAK (zAP (σ:=[0]) (as':=[.ptr 0 0,.i p2,.i p3]) (f12_runs e98).x ent12 rfl ⟨cv0,cv0,cv0,trivial⟩ rfl rfl rfl ?_)
     refine V vm<|V vx<|V vx<|V vx<|V vx<|V va<|V va<|V va<|V va<|nl<|an<|sq<|sq<|rg<|V vm<|V vne<|nl<|an<|?_
     refine cnd (fun hc99 hr=>?_) (fun hc99 hr=>?_)
     ·obtain ⟨x100,e101,hr⟩:=zA hr
      refine sq<|rg<|V (zAV (f7_runs e101).x ent7 rfl rfl)<|V va<|?_
      obtain rfl:=Option.some.inj hr
      exact nl<|an<|cr<|zAC (zAk (l':=[(8,.bool x100)]) (zAA hX [] 4 rfl rfl wS trivial) rfl ⟨rfl,trivial⟩)
     ·obtain ⟨x102,e103,hr⟩:=zA hr
      refine sk<|an<|sq<|sq<|rg<|V vm<|?_
      refine zAG (zA9 (t:=74) (i:=0) (T:=76) (e:=F76) (x:=x95) rfl rfl rfl)<|zAG (zAd (i:=0) (W76 x95 1 2) [.map .i Y4 x95.2.1,.map .i Y5 x95.2.2.1] rfl rfl rfl rfl)<|?_
      refine zAK (zAp (as':=[.ptr 0 0]) (f13_runs e103).x ent13 rfl ⟨cv0,trivial⟩ rfl rfl rfl ?_)
      obtain ⟨o106,e107,hr⟩:=zA hr
      refine V vnL<|V vm<|nl<|an<|bl<|?_
      refine zA5 (i:=3) rfl rfl (fun hl=>?_)
      refine zAI (List.length x102 : Int) (f3_b5 p0 p3 x95 x97 x102) (fun p=>match p with | (i104,())=>(⟨[(0,.sl Y2 p0),(2,.i p2),(3,.i p3),(8,.bool false),(9,.map 0),(15,.sl .i x97.1),(16,.sl .i x97.2.1),(17,.sl .i x97.2.2.1),(75,.osl 1),(76,.i (List.length x102 : Int)),(77,.i i104)],[(0,.tr E76 (some x95)),(1,.sl 3 .i x102)],2⟩ : AS)) (fun o e st=>match o with | .inl ()=>e=.exit 2∧Wk X st ⟨[(2,.i p2),(8,.bool false),(15,.sl .i x97.1)],[],0⟩ | .inr ()=>e=.ret∧Wk X st ⟨[(8,.bool false)],[],0⟩) (zAf hl) e107 (Wk.trans (zAT (i:=0) (T:=76) (e:=F76) (js:=[1,2]) x95 rfl (⟨[.sl Y2 x95.1],[.map 1,.map 2,.i x95.2.2.2.1,.i x95.2.2.2.2],[],[1,2],rfl,rfl,⟨rfl,rfl,rfl⟩,⟨[.map 1],[.map 2,.i x95.2.2.2.1,.i x95.2.2.2.2],[1],[2],rfl,rfl,⟨1,rfl,rfl,rfl⟩,⟨[.map 2],[.i x95.2.2.2.1,.i x95.2.2.2.2],[2],[],rfl,rfl,⟨2,rfl,rfl,rfl⟩,⟨[.i x95.2.2.2.1],[.i x95.2.2.2.2],[],[],rfl,rfl,⟨rfl,rfl,rfl⟩,⟨rfl,rfl,rfl⟩⟩⟩⟩⟩) rfl) (by exact zAA hX [0,3] 4 rfl rfl wS wO)) ?_ ?_
      ·intro e st hx
       rcases o106 with _ | _
       ·obtain ⟨rfl,hw⟩:=hx
        obtain ⟨x108,e109,hr⟩:=zA hr
        refine bh<|an<|(zAY hw)<|sq<|?_
        obtain ⟨h110,hr⟩:=zAN hr
        refine zAa [2,15] [(true,.sl .i x97.1),(true,.i p2),(true,.bool x108),(true,.bool x108),(x108,.bool ((f7).getD default)),(true,.bool (x108&&((f7).getD default))),(true,.bool (x108&&((f7).getD default)))] [[],[],[0,1],[2],[3],[4,3],[5]] [6] rfl rfl rfl rfl rfl ⟨?_,?_,?_,?_,?_,?_,?_,trivial⟩ (zAD ⟨rfl,trivial⟩) ?_
        ·exact oB wm
        ·exact oB wm
        ·exact zAr rfl (fun hg=>zAD ⟨rfl,rfl,trivial⟩) (fun hg=>zAV (zBY e109).x zB9 rfl rfl)
        ·exact oB wm
        ·exact zAr ⟨rfl,rfl,rfl,_,rfl,rfl⟩ (fun hg=>zAD ⟨rfl,trivial⟩) (fun hg=>zAV (f7_runs (zAz h110 hg)).x ent7 rfl rfl)
        ·exact zBe
        ·exact oB wa
        obtain rfl:=Option.some.inj hr
        exact zAZ (zAw (zAk (l':=[(8,.bool (x108&&((f7).getD default)))]) (zAA hX [] 4 rfl rfl wS trivial) rfl ⟨rfl,trivial⟩))
       ·obtain ⟨rfl,hw⟩:=hx
        obtain rfl:=Option.some.inj hr
        exact zAE (zAC (zAk (l':=[(8,.bool false)]) (Wk.trans hw (zAA hX [] 4 rfl rfl wS trivial)) rfl ⟨rfl,trivial⟩))
      ·rintro i104 _ o ho
       refine sq<|rg<|V vls<|nl<|an<|sq<|?_
       refine zAO (b:=decide (i104 < (List.length x102 : Int))) rfl (fun hc111=>?_) (fun hc111=>?_)
       ·obtain ⟨q,hr,rfl⟩:=zA7 hc111 ho
        obtain ⟨x112,e113,hr⟩:=zA hr
        obtain ⟨x114,e115,hr⟩:=zA hr
        refine sk<|an<|sq<|bl<|sq<|rg<|V (zAn (t:=.i) (undX 33 rfl) (szX 3 rfl) rfl rfl rfl e113)<|?_
        refine V (zAu (tsX 3 rfl) rfl rfl rfl (zCM e113) rfl)<|V va<|nl<|an<|sq<|rg<|V vm<|V vm<|?_
        refine zAG (zA9 (t:=82) (i:=0) (T:=76) (e:=F76) (x:=x95) rfl rfl rfl)<|?_
        refine zAK (zAP (σ:=[0]) (as':=[.ptr 0 0,.i x112]) (f14_runs e115).x ent14 rfl ⟨cv0,cv0,trivial⟩ rfl rfl rfl ?_)
        refine V vm<|V vx<|V vx<|O oa<|O os<|V va<|nl<|an<|sq<|sq<|rg<|V vm<|V vne<|nl<|an<|?_
        refine cnd (fun hc116 hr=>?_) (fun hc116 hr=>?_)
        ·refine sq<|rg<|V va<|?_
         obtain rfl:=Option.some.inj hr
         exact nl<|an<|cr<|zAC (zAE (zAC (⟨rfl,(zAA hX [] 4 rfl rfl wS trivial)⟩)))
        ·obtain ⟨o124,e125,hr⟩:=zA hr
         refine sk<|an<|sq<|rg<|V va<|V va<|nl<|an<|sq<|sq<|rg<|V vm<|V vnl<|V vm<|nl<|an<|bl<|?_
         refine zAb (t:=0) rfl (fun hl=>?_)
         refine zAI (List.length p0 : Int) (f3_b6 p0 p3 x97 x114) (fun p=>match p with | (i117,s118,s119)=>(⟨[(0,.sl Y2 p0),(2,.i p2),(3,.i p3),(8,.bool false),(9,.map 0),(15,.sl .i x97.1),(16,.sl .i x97.2.1),(17,.sl .i x97.2.2.1),(19,.i x112),(20,.ptr 1 0),(22,.bool s118),(23,.bool s119),(75,.osl 2),(76,.i (List.length x102 : Int)),(77,.i i104),(89,.sl Y2 p0),(90,.i (List.length p0 : Int)),(91,.i i117)],[(0,.tr E76 (some x95)),(1,.var 42 [.i x114.1.1,.str x114.1.2.1,.sl .i x114.1.2.2]),(2,.sl 3 .i x102)],3⟩ : AS)) (fun o e st=>match o with | .inr _=>False | .inl (s118,s119)=>e=.exit 4∧Wk X st ⟨[(0,.sl Y2 p0),(2,.i p2),(3,.i p3),(8,.bool false),(9,.map 0),(15,.sl .i x97.1),(16,.sl .i x97.2.1),(17,.sl .i x97.2.2.1),(19,.i x112),(20,.ptr 1 0),(22,.bool s118),(23,.bool s119),(75,.osl 2),(76,.i (List.length x102 : Int)),(77,.i i104)],[(0,.tr E76 (some x95)),(1,.var 42 [.i x114.1.1,.str x114.1.2.1,.sl .i x114.1.2.2]),(2,.sl 3 .i x102)],3⟩) (zAf hl) e125 (by exact zAA hX [0,2,1] 4 rfl rfl wS wO) ?_ ?_
         ·intro e st hx
          rcases o124 with ⟨s118,s119⟩ | _
          ·obtain ⟨rfl,hw⟩:=hx
           obtain ⟨x126,e127,hr⟩:=zA hr
           refine bh<|an<|(zAY hw)<|sq<|sq<|rg<|V vm<|V vm<|V vm<|?_
           refine V (zAV (zBY e127).x zB9 rfl rfl)<|?_
           refine V (av_neqb (undX 4 rfl) rfl rfl)<|nl<|an<|?_
           refine cnd (fun hc128 hr=>?_) (fun hc128 hr=>?_)
           ·refine sq<|rg<|V va<|?_
            obtain rfl:=Option.some.inj hr
            exact nl<|an<|cr<|zAC (zAE (zAC (⟨rfl,(zAA hX [] 4 rfl rfl wS trivial)⟩)))
           ·obtain ⟨o131,e132,hr⟩:=zA hr
            refine sk<|an<|sq<|rg<|V vfp<|V vlp<|V vnl<|V vm<|nl<|an<|bl<|?_
            refine zAb (t:=158) rfl (fun hl=>?_)
            refine zAI (List.length x114.1.2.2 : Int) (f3_b7 x97 x114 s118 s119) (fun p=>match p with | (i129,())=>(⟨[(0,.sl Y2 p0),(2,.i p2),(3,.i p3),(8,.bool false),(9,.map 0),(15,.sl .i x97.1),(16,.sl .i x97.2.1),(17,.sl .i x97.2.2.1),(22,.bool s118),(23,.bool s119),(75,.osl 1),(76,.i (List.length x102 : Int)),(77,.i i104),(158,.sl .i x114.1.2.2),(159,.i (List.length x114.1.2.2 : Int)),(160,.i i129)],[(0,.tr E76 (some x95)),(1,.sl 3 .i x102)],2⟩ : AS)) (fun o e st=>match o with | .inl ()=>e=.exit 8∧Wk X st ⟨[(0,.sl Y2 p0),(2,.i p2),(3,.i p3),(8,.bool false),(9,.map 0),(15,.sl .i x97.1),(16,.sl .i x97.2.1),(17,.sl .i x97.2.2.1),(75,.osl 1),(76,.i (List.length x102 : Int)),(77,.i i104)],[(0,.tr E76 (some x95)),(1,.sl 3 .i x102)],2⟩ | .inr ()=>e=.ret∧Wk X st ⟨[(8,.bool false)],[],0⟩) (zAf hl) e132 (by exact zAA hX [0,2] 4 rfl rfl wS wO) ?_ ?_
            ·intro e st hx
             rcases o131 with _ | _
             ·obtain ⟨rfl,hw⟩:=hx
              refine bh<|bn<|an<|(zAY hw)<|rg<|V vad<|V vm<|?_
              obtain rfl:=Option.some.inj hr
              exact zAJ ((zAA hX [0,1] 4 rfl rfl wS wO))
             ·obtain ⟨rfl,hw⟩:=hx
              obtain rfl:=Option.some.inj hr
              exact zAE (zAE (zAC (⟨rfl,(Wk.trans hw (zAA hX [] 4 rfl rfl wS trivial))⟩)))
            ·rintro i129 _ o ho
             refine sq<|rg<|V vls<|nl<|an<|sq<|?_
             refine zAO (b:=decide (i129 < (List.length x114.1.2.2 : Int))) rfl (fun hc133=>?_) (fun hc133=>?_)
             ·obtain ⟨q,hr,rfl⟩:=zA7 hc133 ho
              obtain ⟨x134,e135,hr⟩:=zA hr
              refine sk<|an<|sq<|bl<|sq<|rg<|V (zAQ (t:=.i) (e:=x134) (undX 33 rfl) (szX 3 rfl) rfl rfl e135)<|V vlr<|V va<|nl<|an<|sq<|?_
              obtain ⟨h136,hr⟩:=zAN hr
              obtain ⟨h137,hr⟩:=zAN hr
              obtain ⟨h138,hr⟩:=zAN hr
              refine zAa [0,2,3,8,9,15,16,17,22,23,75,76,77,158,159,160,30] [(true,.bool s119),(true,.bool s119),(s119,.sl .i x97.1),(s119,.i x134),(s119,.bool ((f15 x97.1 x134).getD default)),(s119,.bool (!((f15 x97.1 x134).getD default))),(true,.bool (s119&&(!((f15 x97.1 x134).getD default)))),(true,.bool (s119&&(!((f15 x97.1 x134).getD default)))),(!(s119&&(!((f15 x97.1 x134).getD default))),.bool s118),(!(s119&&(!((f15 x97.1 x134).getD default))),.bool s118),((!(s119&&(!((f15 x97.1 x134).getD default))))&&s118,.sl .i x97.1),((!(s119&&(!((f15 x97.1 x134).getD default))))&&s118,.i x134),((!(s119&&(!((f15 x97.1 x134).getD default))))&&s118,.bool ((f15 x97.1 x134).getD default)),((!(s119&&(!((f15 x97.1 x134).getD default))))&&s118,.bool (!((f15 x97.1 x134).getD default))),(!(s119&&(!((f15 x97.1 x134).getD default))),.bool (s118&&(!((f15 x97.1 x134).getD default)))),(!(s119&&(!((f15 x97.1 x134).getD default))),.bool (s118&&(!((f15 x97.1 x134).getD default)))),((!(s119&&(!((f15 x97.1 x134).getD default))))&&(s118&&(!((f15 x97.1 x134).getD default))),.sl .i x97.2.2.1),((!(s119&&(!((f15 x97.1 x134).getD default))))&&(s118&&(!((f15 x97.1 x134).getD default))),.i x134),((!(s119&&(!((f15 x97.1 x134).getD default))))&&(s118&&(!((f15 x97.1 x134).getD default))),.bool ((f15 x97.2.2.1 x134).getD default)),((!(s119&&(!((f15 x97.1 x134).getD default))))&&(s118&&(!((f15 x97.1 x134).getD default))),.bool (!((f15 x97.2.2.1 x134).getD default))),(!(s119&&(!((f15 x97.1 x134).getD default))),.bool ((s118&&(!((f15 x97.1 x134).getD default)))&&(!((f15 x97.2.2.1 x134).getD default)))),(true,.bool ((s119&&(!((f15 x97.1 x134).getD default)))||((s118&&(!((f15 x97.1 x134).getD default)))&&(!((f15 x97.2.2.1 x134).getD default)))))] [[],[0],[1],[1],[2,3,1],[4,1],[5,1],[6],[7],[8,7],[9],[9],[10,11,9],[12,9],[13,9,7],[14,7],[15],[15],[16,17,15],[18,15],[19,15,7],[20,7]] [21] rfl rfl rfl rfl rfl ⟨?_,?_,?_,?_,?_,?_,?_,?_,?_,?_,?_,?_,?_,?_,?_,?_,?_,?_,?_,?_,?_,?_,trivial⟩ (zAD ⟨rfl,trivial⟩) ?_
              ·exact oB wm
              ·exact oB wm
              ·exact oB wm
              ·exact oB wm
              ·exact zAr ⟨rfl,rfl,rfl,_,rfl,rfl⟩ (fun hg=>zAD ⟨hg,hg,rfl,trivial⟩) (fun hg=>zAV (zBY (zAz h136 hg)).x zB9 rfl rfl)
              ·exact oB wno
              ·exact zBe
              ·exact oB wm
              ·exact oB wm
              ·exact oB wm
              ·exact oB wm
              ·exact oB wm
              ·exact zAr ⟨rfl,rfl,rfl,_,rfl,rfl⟩ (fun hg=>zAD ⟨hg,hg,(zBO hg),trivial⟩) (fun hg=>zAV (zBY (zAz h137 hg)).x zB9 rfl rfl)
              ·exact oB wno
              ·exact zBC (b:=true) (p:=s118) (q:=!((f15 x97.1 x134).getD default)) ⟨rfl,rfl,rfl,_,rfl,rfl⟩ rfl rfl (fun hg=>zAD ⟨hg,rfl,trivial⟩) rfl rfl rfl rfl rfl
              ·exact oB wm
              ·exact oB wm
              ·exact oB wm
              ·exact zAr ⟨rfl,rfl,rfl,_,rfl,rfl⟩ (fun hg=>zAD ⟨hg,hg,(zBO hg),trivial⟩) (fun hg=>zAV (zBY (zAz h138 hg)).x zB9 rfl rfl)
              ·exact oB wno
              ·exact zBC (b:=true) (p:=s118&&(!((f15 x97.1 x134).getD default))) (q:=!((f15 x97.2.2.1 x134).getD default)) ⟨rfl,rfl,rfl,_,rfl,rfl⟩ rfl rfl (fun hg=>zAD ⟨hg,rfl,trivial⟩) rfl rfl rfl rfl rfl
              ·exact zBr
              refine an<|?_
              refine cnd (fun hc139 hr=>?_) (fun hc139 hr=>?_)
              ·refine sq<|rg<|V va<|?_
               obtain rfl:=Option.some.inj hr
               exact nl<|an<|cr<|zAE (zAC (⟨rfl,(zAA hX [] 4 rfl rfl wS trivial)⟩))
              ·refine sk<|bn<|an<|rg<|V vad<|V vm<|?_
               obtain rfl:=Option.some.inj hr
               exact zAJ ((zAA hX [0,1] 4 rfl rfl wS wO))
             ·obtain rfl:=zA8 hc133 ho
              exact zAH (zAF (⟨rfl,(zAA hX [0,1] 4 rfl rfl wS wO)⟩))
          ·exact hx.elim
         ·rintro i117 ⟨s118,s119⟩ o ho
          refine sq<|rg<|V vls<|nl<|an<|sq<|?_
          refine zAO (b:=decide (i117 < (List.length p0 : Int))) rfl (fun hc140=>?_) (fun hc140=>?_)
          ·obtain ⟨q,hr,rfl⟩:=zA7 hc140 ho
           obtain ⟨o143,e144,hr⟩:=zA hr
           refine sk<|an<|?_
           refine zAy (S:=Bool×Bool) (R:=Unit) (fun s=>match s with | (s141,s142)=>(⟨[(0,.sl Y2 p0),(2,.i p2),(3,.i p3),(8,.bool false),(9,.map 0),(15,.sl .i x97.1),(16,.sl .i x97.2.1),(17,.sl .i x97.2.2.1),(19,.i x112),(20,.ptr 1 0),(22,.bool s141),(23,.bool s142),(75,.osl 2),(76,.i (List.length x102 : Int)),(77,.i i104),(89,.sl Y2 p0),(90,.i (List.length p0 : Int)),(91,.i i117)],[(0,.tr E76 (some x95)),(1,.var 42 [.i x114.1.1,.str x114.1.2.1,.sl .i x114.1.2.2]),(2,.sl 3 .i x102)],3⟩ : AS)) (fun _ _ _=>False) e144 (fun hr=>?_) ?_ ?_
           ·obtain ⟨x145,e146,hr⟩:=zA hr
            refine bl<|sq<|rg<|V (zAQ (t:=Y2) (e:=x145) (undX 22 rfl) (szX 47 rfl) rfl rfl e146)<|V vlR<|O oa<|O os<|nl<|an<|sq<|sq<|rg<|V vfp<|V vlp<|V vfp<|V vlp<|V vns<|nl<|an<|?_
            refine cnd (fun hc147 hr=>?_) (fun hc147 hr=>?_)
            ·obtain rfl:=Option.some.inj hr
             exact zAH (zAF (zAl ((zAA hX [0,1,2] 4 rfl rfl wS wO))))
            ·obtain ⟨o155,e156,hr⟩:=zA hr
             refine sk<|an<|sq<|rg<|V vfp<|V vlp<|V vnl<|V vm<|nl<|an<|bl<|?_
             refine zAb (t:=101) rfl (fun hl=>?_)
             refine zAI (List.length x114.1.2.2 : Int) (f3_b8 p3 x97 x114 x145) (fun p=>match p with | (i148,s149,s150)=>(⟨[(0,.sl Y2 p0),(2,.i p2),(3,.i p3),(8,.bool false),(9,.map 0),(15,.sl .i x97.1),(16,.sl .i x97.2.1),(17,.sl .i x97.2.2.1),(19,.i x112),(20,.ptr 1 0),(22,.bool s149),(23,.bool s150),(25,.ptr 2 0),(75,.osl 3),(76,.i (List.length x102 : Int)),(77,.i i104),(89,.sl Y2 p0),(90,.i (List.length p0 : Int)),(91,.i i117),(101,.sl .i x114.1.2.2),(102,.i (List.length x114.1.2.2 : Int)),(103,.i i148)],[(0,.tr E76 (some x95)),(1,.var 42 [.i x114.1.1,.str x114.1.2.1,.sl .i x114.1.2.2]),(2,.var 47 [.str x145.1,.sl Y1 x145.2]),(3,.sl 3 .i x102)],4⟩ : AS)) (fun o e st=>match o with | .inr _=>False | .inl (s149,s150)=>e=.exit 6∧Wk X st ⟨[(0,.sl Y2 p0),(2,.i p2),(3,.i p3),(8,.bool false),(9,.map 0),(15,.sl .i x97.1),(16,.sl .i x97.2.1),(17,.sl .i x97.2.2.1),(19,.i x112),(20,.ptr 1 0),(22,.bool s149),(23,.bool s150),(75,.osl 2),(76,.i (List.length x102 : Int)),(77,.i i104),(89,.sl Y2 p0),(90,.i (List.length p0 : Int)),(91,.i i117)],[(0,.tr E76 (some x95)),(1,.var 42 [.i x114.1.1,.str x114.1.2.1,.sl .i x114.1.2.2]),(2,.sl 3 .i x102)],3⟩) (zAf hl) e156 (by exact zAA hX [0,1,3,2] 4 rfl rfl wS wO) ?_ ?_
             ·intro e st hx
              rcases o155 with ⟨s149,s150⟩ | _
              ·obtain ⟨rfl,hw⟩:=hx
               obtain rfl:=Option.some.inj hr
               exact zAl (zAS ((Wk.trans hw (zAA hX [0,1,2] 4 rfl rfl wS wO))))
              ·exact hx.elim
             ·rintro i148 ⟨s149,s150⟩ o ho
              refine sq<|rg<|V vls<|nl<|an<|sq<|?_
              refine zAO (b:=decide (i148 < (List.length x114.1.2.2 : Int))) rfl (fun hc157=>?_) (fun hc157=>?_)
              ·obtain ⟨q,hr,rfl⟩:=zA7 hc157 ho
               obtain ⟨x158,e159,hr⟩:=zA hr
               obtain ⟨x160,e161,hr⟩:=zA hr
               obtain ⟨x162,e163,hr⟩:=zA hr
               refine sk<|an<|sq<|bl<|sq<|rg<|V vm<|?_
               refine V (zAQ (t:=.i) (e:=x158) (undX 33 rfl) (szX 3 rfl) rfl rfl e159)<|V vlr<|V va<|V va<|nl<|an<|sq<|?_
               refine zBE mixed [0,2,3,8,9,15,16,17,19,20,22,23,25,75,76,77,89,90,91,101,102,103,26,27] [(true,.ptr 2 1),(true,.sl Y1 x145.2),(true,.i i148),(true,.rp [.str x160.1,.i x160.2.1,.i x160.2.2.1,.i x160.2.2.2.1,.i x160.2.2.2.2.1,.i x160.2.2.2.2.2]),(true,.rp [.i x160.2.2.2.1,.i x160.2.2.2.2.1,.i x160.2.2.2.2.2]),(true,.i x160.2.2.2.1),(true,.ptr 2 1),(true,.sl Y1 x145.2),(true,.i i148),(true,.rp [.str x160.1,.i x160.2.1,.i x160.2.2.1,.i x160.2.2.2.1,.i x160.2.2.2.2.1,.i x160.2.2.2.2.2]),(true,.rp [.i x160.2.2.2.2.1,.i x160.2.2.2.2.2]),(true,.i x160.2.2.2.2.1),(true,.ptr 2 1),(true,.sl Y1 x145.2),(true,.i i148),(true,.rp [.str x160.1,.i x160.2.1,.i x160.2.2.1,.i x160.2.2.2.1,.i x160.2.2.2.2.1,.i x160.2.2.2.2.2]),(true,.rp [.i x160.2.2.2.2.2]),(true,.i x160.2.2.2.2.2),(true,.sl .i [0,x160.2.2.2.1,x160.2.2.2.2.1,x160.2.2.2.2.2]),(true,.i p3),(true,.rp [.i x162]),(true,.i x162),(true,.i x162)] [[],[0],[],[1,2],[3],[4],[],[6],[],[7,8],[9],[10],[],[12],[],[13,14],[15],[16],[5,11,17],[],[18,19],[20],[21]] [22] rfl rfl rfl rfl rfl ⟨?_,?_,?_,?_,?_,?_,?_,?_,?_,?_,?_,?_,?_,?_,?_,?_,?_,?_,?_,?_,?_,?_,?_,trivial⟩ (zAD ⟨rfl,trivial⟩) ?_
               ·exact oB wfp
               ·exact oB wlp
               ·exact oB wm
               ·exact zAr rfl (fun hg=>zAD ⟨rfl,rfl,trivial⟩) (fun hg=>zAQ (t:=Y1) (e:=x160) (undX 45 rfl) (szX 49 rfl) rfl rfl e161)
               ·exact oB wfr
               ·exact oB wlr
               ·exact oB wfp
               ·exact oB wlp
               ·exact oB wm
               ·exact zAr rfl (fun hg=>zAD ⟨rfl,rfl,trivial⟩) (fun hg=>zAQ (t:=Y1) (e:=x160) (undX 45 rfl) (szX 49 rfl) rfl rfl e161)
               ·exact oB wfr
               ·exact oB wlr
               ·exact oB wfp
               ·exact oB wlp
               ·exact oB wm
               ·exact zAr rfl (fun hg=>zAD ⟨rfl,rfl,trivial⟩) (fun hg=>zAQ (t:=Y1) (e:=x160) (undX 45 rfl) (szX 49 rfl) rfl rfl e161)
               ·exact oB wfr
               ·exact oB wlr
               ·exact zAr rfl (fun hg=>zAD ⟨rfl,rfl,rfl,trivial⟩) (fun hg=>zAM (t:=.i) (qs:=[(0,[.i 0]),(1,[.i x160.2.2.2.1]),(2,[.i x160.2.2.2.2.1]),(3,[.i x160.2.2.2.2.2])]) (ys:=[0,x160.2.2.2.1,x160.2.2.2.2.1,x160.2.2.2.2.2]) bs33 rfl rfl rfl rfl rfl rfl rfl rfl)
               ·exact oB wm
               ·exact zAr rfl (fun hg=>zAD ⟨rfl,rfl,trivial⟩) (fun hg=>zAQ (t:=.i) (e:=x162) (undX 33 rfl) (szX 3 rfl) rfl rfl e163)
               ·exact oB wlr
               ·exact oB wa
               refine an<|sq<|?_
               obtain ⟨h164,hr⟩:=zAN hr
               refine zBy 10 [0,2,3,8,9,15,16,17,19,20,22,23,25,75,76,77,89,90,91,101,102,103,27,28] [(true,.bool s149),(true,.bool s149),(!s149,.sl .i x97.1),(!s149,.i x158),(!s149,.bool ((f15 x97.1 x158).getD default)),(!s149,.bool ((f15 x97.1 x158).getD default)),((!s149)&&((f15 x97.1 x158).getD default),.i x162),((!s149)&&((f15 x97.1 x158).getD default),.bool (!decide (x162=3))),(!s149,.bool (((f15 x97.1 x158).getD default)&&(!decide (x162=3)))),(true,.bool (s149||(((f15 x97.1 x158).getD default)&&(!decide (x162=3)))))] [[],[0],[1],[1],[2,3,1],[4,1],[5],[6,5],[7,5,1],[8,1]] [9] rfl rfl rfl rfl rfl rfl ⟨?_,?_,?_,?_,?_,?_,?_,?_,?_,?_,trivial⟩ (zAD ⟨rfl,trivial⟩) ?_
               ·exact oB wm
               ·exact oB wm
               ·exact oB wm
               ·exact oB wm
               ·exact zAr ⟨rfl,rfl,rfl,_,rfl,rfl⟩ (fun hg=>zAD ⟨hg,hg,rfl,trivial⟩) (fun hg=>zAV (zBY (zAz h164 hg)).x zB9 rfl rfl)
               ·exact oB wm
               ·exact oB wm
               ·exact oB wne
               ·exact zBC (b:=true) (p:=((f15 x97.1 x158).getD default)) (q:=!decide (x162=3)) ⟨rfl,rfl,rfl,_,rfl,rfl⟩ rfl rfl (fun hg=>zAD ⟨hg,rfl,trivial⟩) rfl rfl rfl rfl rfl
               ·exact zBr
               refine V va<|nl<|an<|?_
               obtain ⟨h165,hr⟩:=zAN hr
               refine zBy 10 [0,2,3,8,9,15,16,17,19,20,22,23,25,75,76,77,89,90,91,101,102,103,27,28] [(true,.bool s150),(true,.bool s150),(!s150,.sl .i x97.1),(!s150,.i x158),(!s150,.bool ((f15 x97.1 x158).getD default)),(!s150,.bool ((f15 x97.1 x158).getD default)),((!s150)&&((f15 x97.1 x158).getD default),.i x162),((!s150)&&((f15 x97.1 x158).getD default),.bool (decide (x162=1))),(!s150,.bool (((f15 x97.1 x158).getD default)&&(decide (x162=1)))),(true,.bool (s150||(((f15 x97.1 x158).getD default)&&(decide (x162=1)))))] [[],[0],[1],[1],[2,3,1],[4,1],[5],[6,5],[7,5,1],[8,1]] [9] rfl rfl rfl rfl rfl rfl ⟨?_,?_,?_,?_,?_,?_,?_,?_,?_,?_,trivial⟩ (zAD ⟨rfl,trivial⟩) ?_
               ·exact oB wm
               ·exact oB wm
               ·exact oB wm
               ·exact oB wm
               ·exact zAr ⟨rfl,rfl,rfl,_,rfl,rfl⟩ (fun hg=>zAD ⟨hg,hg,rfl,trivial⟩) (fun hg=>zAV (zBY (zAz h165 hg)).x zB9 rfl rfl)
               ·exact oB wm
               ·exact oB wm
               ·exact oB weq
               ·exact zBC (b:=true) (p:=((f15 x97.1 x158).getD default)) (q:=decide (x162=1)) ⟨rfl,rfl,rfl,_,rfl,rfl⟩ rfl rfl (fun hg=>zAD ⟨hg,rfl,trivial⟩) rfl rfl rfl rfl rfl
               ·exact zBr
               refine V va<|nl<|bn<|an<|rg<|V vad<|V vm<|?_
               obtain rfl:=Option.some.inj hr
               exact zAJ ((zAA hX [0,1,2,3] 4 rfl rfl wS wO))
              ·obtain rfl:=zA8 hc157 ho
               exact zAH (zAF (⟨rfl,(zAA hX [0,1,3] 4 rfl rfl wS wO)⟩))
           ·rintro ⟨s141,s142⟩ rfl
            refine rg<|V vad<|V vm<|?_
            obtain rfl:=Option.some.inj hr
            exact zAJ ((zAA hX [0,1,2] 4 rfl rfl wS wO))
           ·exact fun r h e st hne hx=>hx.elim
          ·obtain rfl:=zA8 hc140 ho
           exact zAH (zAF (⟨rfl,(zAA hX [0,1,2] 4 rfl rfl wS wO)⟩))
       ·obtain rfl:=zA8 hc111 ho
        exact zAH (zAF (⟨rfl,(zAA hX [] 4 rfl rfl wS trivial)⟩))
   ·rintro i13 ⟨s15,s16⟩ o ho
    refine sq<|rg<|V vls<|nl<|an<|sq<|?_
    refine zAO (b:=decide (i13 < (List.length p1 : Int))) rfl (fun hc166=>?_) (fun hc166=>?_)
    ·obtain ⟨q,hr,rfl⟩:=zA7 hc166 ho
     obtain ⟨x167,e168,hr⟩:=zA hr
     obtain ⟨x169,e170,hr⟩:=zA hr
     obtain ⟨x171,e172,hr⟩:=zA hr
     refine sk<|an<|sq<|bl<|sq<|rg<|V (zAQ (t:=Y3) (e:=x167) (undX 23 rfl) (szX 35 rfl) rfl rfl e168)<|V vlR<|O oa<|O os<|nl<|an<|sq<|sq<|rg<|V vm<|?_
     refine zAG (zA9 (t:=55) (i:=1) (T:=80) (e:=F80) (x:=x169) e170 rfl rfl)<|zAG (zAd (i:=1) [.sl Y2 x169.1,.osl 3,.osl 4,.i x169.2.2.2.1,.i x169.2.2.2.2] [.sl 54 Y4 x169.2.1,.sl 42 Y5 x169.2.2.1] rfl rfl rfl rfl)<|V (zAj (as':=[.ptr 1 0]) (f10_runs e172).x ent10 rfl ⟨cv0,trivial⟩ rfl rfl)<|nl<|an<|?_
     refine cnd (fun hc173 hr=>?_) (fun hc173 hr=>?_)
     ·obtain rfl:=Option.some.inj hr
      exact zAH (zAF ((zBF rfl) (zAF (⟨rfl,(zAA hX [0] 4 rfl rfl wS wO)⟩))))
     ·obtain ⟨x174,e175,hr⟩:=zA hr
      obtain ⟨x176,e177,hr⟩:=zA hr
      refine sk<|an<|rg<|V vm<|?_
      refine zAG (wk_trvar (t:=11) (i:=1) rfl rfl)<|V vm<|V vlP<|?_
      refine zAG (zA9 (t:=57) (i:=0) (T:=76) (e:=F76) (x:=x174) e175 rfl rfl)<|zAG (zAT (i:=1) (T:=80) (e:=F80) (js:=[3,4]) x169 rfl (⟨[.sl Y2 x169.1],[.osl 3,.osl 4,.i x169.2.2.2.1,.i x169.2.2.2.2],[],[3,4],rfl,rfl,⟨rfl,rfl,rfl⟩,⟨[.osl 3],[.osl 4,.i x169.2.2.2.1,.i x169.2.2.2.2],[3],[4],rfl,rfl,.inl ⟨3,rfl,rfl,rfl⟩,⟨[.osl 4],[.i x169.2.2.2.1,.i x169.2.2.2.2],[4],[],rfl,rfl,.inl ⟨4,rfl,rfl,rfl⟩,⟨[.i x169.2.2.2.1],[.i x169.2.2.2.2],[],[],rfl,rfl,⟨rfl,rfl,rfl⟩,⟨rfl,rfl,rfl⟩⟩⟩⟩⟩) rfl)<|?_
      refine zAK (zAP (σ:=[0,1]) (as':=[.ptr 0 0,.ptr 1 0,.agg (A35 x167)]) (f11_runs e177).x ent11 rfl ⟨cv0,cv0,cv0,trivial⟩ rfl rfl rfl ?_)
      refine nl<|bn<|an<|rg<|V vad<|V vm<|?_
      obtain rfl:=Option.some.inj hr
      exact zAJ ((zAA hX [0,1] 4 rfl rfl ⟨⟨_,rfl,cv0⟩,⟨_,rfl,cv0⟩,⟨_,rfl,cv0⟩,⟨_,rfl,cv0⟩,⟨_,rfl,cv0⟩,⟨_,rfl,cv6⟩,⟨_,rfl,cv0⟩,⟨_,rfl,cv0⟩,⟨_,rfl,cv0⟩,trivial⟩ wO))
    ·obtain rfl:=zA8 hc166 ho
     exact zAH (zAF (⟨rfl,(zAA hX [0] 4 rfl rfl wS wO)⟩))
end Go.Ab
namespace Go.Ab
abbrev RoleT:=ZO
abbrev SortT:=Str×List RoleT
abbrev PW:=List SortT×List (Int×(Int×Int×Str))×List (Int×(Int×Str×List Int))×Int×Int
abbrev RW:=List SortT×List (Int×Int×Str)×List (Int×Str×List Int)×Int×Int
theorem f7_true : f7=some true:=by decide +kernel
theorem find_tot {α:Type} [Inhabited α] {p:List α}{q:α→Option Bool}{g:Int→Unit→Option (Unit ⊕ Int)}(hg:∀ i s,g i s=(ix p i).bind fun x=>(q x).bind fun b=>bif b then some (.inr i) else some (.inl ())) (f:α→Bool) (hq:∀ x∈p,q x=some (f x)) :
  Tot ((rng g (Int.toNat (List.length p : Int)) 0 ()).bind fun o=>match o with
   | .inl ()=>some (-1)
   | .inr s=>some s) fun r=>(r=-1∧∀ x∈p,f x=false)∨∃ i : Nat,r=(i:Int)∧i < p.length∧f (p.getD i default)=true∧∀ j,j < i→f (p.getD j default)=false:=by
 rw [zBS]
 refine (zA1 (fun i _=>∀ j,j < i→f (p.getD j default)=false) (fun r=>∃ i : Nat,r=(i:Int)∧i < p.length∧f (p.getD i default)=true∧∀ j,j < i→f (p.getD j default)=false) (fun j hj=>absurd hj (by omega)) fun i s hi hs=>?_).bind fun o ho=>?_
 ·rw [hg]
  refine zA2 hi ?_
  rw [hq _ (zBV hi)]
  simp only [Option.bind_some]
  refine zAR (fun h=>zAB (.inr ⟨_,rfl,i,rfl,hi,h,hs⟩)) (fun h=>zAB (.inl ⟨_,rfl,fun j hj=>?_⟩))
  rcases Nat.lt_or_ge j i with h1 | h1
  ·exact hs j h1
  ·have : j=i:=by omega
   subst this; exact h
 ·rcases ho with ⟨s',rfl,h⟩ | ⟨r,rfl,h⟩
  ·refine zAB (.inl ⟨rfl,fun x hx=>?_⟩)
   obtain ⟨j,hj,rfl⟩:=zB4 default hx
   exact h j hj
  ·exact zAB (.inr h)
def Find {α:Type} [Inhabited α] (p:List α) (f:α→Bool) (r:Int) : Prop:=(r=-1∧∀ x∈p,f x=false)∨∃ i : Nat,r=(i:Int)∧i < p.length∧f (p.getD i default)=true∧∀ j,j < i→f (p.getD j default)=false
theorem f110_t {p:List Int}{q:Int→Option Bool}(f:Int→Bool) (hq:∀ x∈p,q x=some (f x)) : Tot (f110 p q) (Find p f):=find_tot (g:=f110_b0 p q) (fun i s=>rfl) f hq
theorem f79_t {p:List SortT}{q:SortT→Option Bool}(f:SortT→Bool) (hq:∀ x∈p,q x=some (f x)) : Tot (f79 p q) (Find p f):=find_tot (g:=f79_b0 p q) (fun i s=>rfl) f hq
theorem f112_t {p:List RoleT}{q:RoleT→Option Bool}(f:RoleT→Bool) (hq:∀ x∈p,q x=some (f x)) : Tot (f112 p q) (Find p f):=find_tot (g:=f112_b0 p q) (fun i s=>rfl) f hq
theorem f121_t {p:List Str}{q:Str→Option Bool}(f:Str→Bool) (hq:∀ x∈p,q x=some (f x)) : Tot (f121 p q) (Find p f):=find_tot (g:=f121_b0 p q) (fun i s=>rfl) f hq
theorem find_any {α:Type} [Inhabited α] {p:List α}{f:α→Bool}{r:Int}(h:Find p f r) : decide (0≤r)=p.any f:=by
 rcases h with ⟨rfl,h⟩ | ⟨i,rfl,hi,h,_⟩
 ·have : p.any f=false:=by rw [List.any_eq_false]; intro x hx; simp [h x hx]
  rw [this]; rfl
 ·have : p.any f=true:=List.any_eq_true.2 ⟨_,zBV hi,h⟩
  rw [this]; simp
theorem f66_eq {p:List Int}{q:Int→Option Bool}(f:Int→Bool) (hq:∀ x∈p,q x=some (f x)) : f66 p q=some (p.any f):=by
 have h : Tot (f66 p q) (fun b=>b=p.any f):=(f110_t f hq).bind fun r hr=>⟨_,rfl,find_any hr⟩
 exact h.eq
theorem f26_eq {p:List SortT}{q:SortT→Option Bool}(f:SortT→Bool) (hq:∀ x∈p,q x=some (f x)) : f26 p q=some (p.any f):=by
 have h : Tot (f26 p q) (fun b=>b=p.any f):=(f79_t f hq).bind fun r hr=>⟨_,rfl,find_any hr⟩
 exact h.eq
theorem f77_eq {p:List RoleT}{q:RoleT→Option Bool}(f:RoleT→Bool) (hq:∀ x∈p,q x=some (f x)) : f77 p q=some (p.any f):=by
 have h : Tot (f77 p q) (fun b=>b=p.any f):=(f112_t f hq).bind fun r hr=>⟨_,rfl,find_any hr⟩
 exact h.eq
theorem f106_eq {p:List Str}{q:Str→Option Bool}(f:Str→Bool) (hq:∀ x∈p,q x=some (f x)) : f106 p q=some (p.any f):=by
 have h : Tot (f106 p q) (fun b=>b=p.any f):=(f121_t f hq).bind fun r hr=>⟨_,rfl,find_any hr⟩
 exact h.eq
theorem zCE {α β:Type} [Inhabited α] {p:List α}{g:Int→Unit→Option (Unit ⊕ β)}(f:α→Bool) (r:α→β) (hg:∀ i s,g i s=(ix p i).bind fun x=>bif f x then some (.inr (r x)) else some (.inl ())) :
  Tot (rng g (Int.toNat (List.length p : Int)) 0 ()) fun o=>(o=.inl ()∧p.any f=false)∨∃ i,i < p.length∧o=.inr (r (p.getD i default))∧f (p.getD i default)=true∧p.any f=true∧∀ j,j < i→f (p.getD j default)=false:=by
 rw [zBS]
 refine (zA1 (fun i _=>∀ j,j < i→f (p.getD j default)=false) (fun q=>∃ i,i < p.length∧q=r (p.getD i default)∧f (p.getD i default)=true∧∀ j,j < i→f (p.getD j default)=false) (fun j hj=>absurd hj (by omega)) fun i s hi hs=>?_).mono fun o ho=>?_
 ·rw [hg]
  refine zA2 hi ?_
  refine zAR (fun h=>zAB (.inr ⟨_,rfl,i,hi,rfl,h,hs⟩)) (fun h=>zAB (.inl ⟨_,rfl,fun j hj=>?_⟩))
  rcases Nat.lt_or_ge j i with h1 | h1
  ·exact hs j h1
  ·have : j=i:=by omega
   subst this; exact h
 ·rcases ho with ⟨s',rfl,h⟩ | ⟨q,rfl,i,hi,rfl,h1,h2⟩
  ·refine .inl ⟨rfl,?_⟩
   rw [List.any_eq_false]
   intro x hx
   obtain ⟨j,hj,rfl⟩:=zB4 default hx
   rw [h j hj]; exact Bool.false_ne_true
  ·exact .inr ⟨i,hi,rfl,h1,List.any_eq_true.2 ⟨_,zBV hi,h1⟩,h2⟩
theorem zCp (l:List Int) (n:Int) : f15 l n=some (l.any fun x=>decide (x=n)):=by
 have h : Tot (f15 l n) (fun b=>b=l.any fun x=>decide (x=n)) :=
  (zCE (g:=f15_b0 l n) (fun x=>decide (x=n)) (fun _=>()) (fun i s=>rfl)).bind fun o ho=>by
   rcases ho with ⟨rfl,h⟩ | ⟨i,_,rfl,_,h,_⟩
   ·exact ⟨_,rfl,h.symm⟩
   ·exact ⟨_,rfl,h.symm⟩
 exact h.eq
theorem f82_eq (w:RW) (n:Int) : f82 w n=some (w.2.1.any fun x=>decide (x.1=n)):=by
 have h : Tot (f82 w n) (fun b=>b=w.2.1.any fun x=>decide (x.1=n)) :=
  (zCE (g:=f82_b0 w n) (fun x:Int×Int×Str=>decide (x.1=n)) (fun _=>()) (fun i s=>rfl)).bind fun o ho=>by
   rcases ho with ⟨rfl,h⟩ | ⟨i,_,rfl,_,h,_⟩
   ·exact ⟨_,rfl,h.symm⟩
   ·exact ⟨_,rfl,h.symm⟩
 exact h.eq
theorem map_tot {α β:Type} [Inhabited α] {p:List α}(c:Nat) (f:α→β){g:Int→List β→Option (List β ⊕ Unit)}(hg:∀ i s,g i s=(ix p i).bind fun x=>bif apOk c (List.length s+List.length [f x]) then some (.inl (s++[f x])) else none) (hl:(p.length+1) * c≤140737488355328) :
  Tot (rng g (Int.toNat (List.length p : Int)) 0 []) fun o=>o=.inl (p.map f):=by
 rw [zBS]
 refine (zAq (fun i s=>s=(p.take i).map f) rfl fun i s hi hs=>?_).mono fun o ho=>?_
 ·subst hs
  rw [hg]
  refine zA2 hi (zAi (zBf ?_) (zAB ⟨_,rfl,?_⟩))
  ·rw [List.length_map,List.length_take,List.length_singleton]
   exact Nat.le_trans (Nat.mul_le_mul_right c (by omega)) hl
  ·rw [zCx default hi,List.map_append]; rfl
 ·obtain ⟨s',rfl,rfl⟩:=ho; rw [List.take_length]
theorem f30_eq (w:RW) (h:w.2.1.length≤100000) : f30 w=some (w.2.1.map (·.1)):=by
 have h : Tot (f30 w) (fun b=>b=w.2.1.map (·.1)):=(map_tot 8 (fun x:Int×Int×Str=>x.1) (g:=f30_b0 w) (fun i s=>rfl) (by omega)).bind fun o ho=>by subst ho; exact ⟨_,rfl,rfl⟩
 exact h.eq
theorem f31_eq (w:RW) (h:w.2.2.1.length≤100000) : f31 w=some (w.2.2.1.map (·.1)):=by
 have h : Tot (f31 w) (fun b=>b=w.2.2.1.map (·.1)):=(map_tot 8 (fun x:Int×Str×List Int=>x.1) (g:=f31_b0 w) (fun i s=>rfl) (by omega)).bind fun o ho=>by subst ho; exact ⟨_,rfl,rfl⟩
 exact h.eq
theorem zCs {α:Type} [Inhabited α] {p:List α}{g:Int→Unit→Option (Unit ⊕ Unit)}(f:Nat→α→Bool) (hg:∀ (i:Nat) s,i < p.length→g (i:Int) s=bif f i (p.getD i default) then some (.inr ()) else some (.inl ())) :
  Tot (rng g (Int.toNat (List.length p : Int)) 0 ()) fun o=>(o=.inl ()∧∀ i,i < p.length→f i (p.getD i default)=false)∨(o=.inr ()∧∃ i,i < p.length∧f i (p.getD i default)=true):=by
 rw [zBS]
 refine (zA1 (fun i _=>∀ j,j < i→f j (p.getD j default)=false) (fun q=>∃ i,i < p.length∧f i (p.getD i default)=true) (fun j hj=>absurd hj (by omega)) fun i s hi hs=>?_).mono fun o ho=>?_
 ·rw [hg i s hi]
  refine zAR (fun h=>zAB (.inr ⟨_,rfl,i,hi,h⟩)) (fun h=>zAB (.inl ⟨_,rfl,fun j hj=>?_⟩))
  rcases Nat.lt_or_ge j i with h1 | h1
  ·exact hs j h1
  ·have : j=i:=by omega
   subst this; exact h
 ·rcases ho with ⟨s',rfl,h⟩ | ⟨q,rfl,h⟩
  ·exact .inl ⟨rfl,h⟩
  ·exact .inr ⟨rfl,h⟩
def badB (i:Nat) (c:UInt8) : Bool:=!(decide (97≤c.toNat)&&decide (c.toNat≤122))&&!(decide (65≤c.toNat)&&decide (c.toNat≤90))&&(decide (i=0)||!decide (c.toNat=95)&&!(decide (48≤c.toNat)&&decide (c.toNat≤57)))
def nameB (p:Str) : Bool:=((List.range p.length).all fun i=>!badB i (p.getD i default))&&(!decide (p=[]))&&decide (p.length≤32)
theorem zB1 {n:Nat}{f:Nat→Bool} : ((List.range n).all f)=true↔∀ i,i < n→f i=true:=by
 rw [List.all_eq_true]; exact ⟨fun h i hi=>h i (List.mem_range.2 hi),fun h i hi=>h i (List.mem_range.1 hi)⟩
theorem f73_eq (p:Str) (h:p.length≤100000) : f73 p=some (nameB p):=by
 have h1 : Tot (f73 p) (fun b=>b=nameB p):=by
  unfold f73
  refine zAi (by simp; omega) ((zCs (g:=f73_b0 p) badB fun i s hi=>?_).bind fun o ho=>?_)
  ·unfold f73_b0
   rw [zBW hi]
   simp only [Option.bind_some]
   congr 1
   rw [Bool.eq_iff_iff]
   simp only [badB,Bool.and_eq_true,Bool.or_eq_true,decide_eq_true_eq,Bool.not_eq_true',decide_eq_false_iff_not,Bool.and_eq_false_iff]
   omega
  ·rcases ho with ⟨rfl,h1⟩ | ⟨rfl,i,hi,h1⟩
   ·refine ⟨_,rfl,?_⟩
    have : ((List.range p.length).all fun i=>!badB i (p.getD i default))=true:=zB1.2 fun i hi=>by rw [h1 i hi]; rfl
    simp only [nameB,this,Bool.true_and]
    congr 1
    rw [Bool.eq_iff_iff]; simp only [decide_eq_true_eq]; omega
   ·refine ⟨_,rfl,?_⟩
    have : ((List.range p.length).all fun i=>!badB i (p.getD i default))=false:=by
     rw [Bool.eq_false_iff]; intro hc; have:=zB1.1 hc i hi; rw [h1] at this; cases this
    simp only [nameB,this,Bool.false_and]
 exact h1.eq
theorem f80_eq (p:Str) (h:p.length≤100000) : f80 p=some (nameB p):=by
 have h1 : Tot (f80 p) (fun b=>b=nameB p):=by
  unfold f80
  refine zAi (by simp; omega) ((zCs (g:=f80_b0 p) badB fun i s hi=>?_).bind fun o ho=>?_)
  ·unfold f80_b0
   rw [zBW hi]
   simp only [Option.bind_some,Option.isSome_some,Bool.or_true,cond_true,Option.getD_some]
   congr 1
   rw [Bool.eq_iff_iff]
   simp only [badB,Bool.and_eq_true,Bool.or_eq_true,decide_eq_true_eq,Bool.not_eq_true',decide_eq_false_iff_not,Bool.and_eq_false_iff,Bool.or_eq_false_iff]
   omega
  ·rcases ho with ⟨rfl,h1⟩ | ⟨rfl,i,hi,h1⟩
   ·refine ⟨_,rfl,?_⟩
    have : ((List.range p.length).all fun i=>!badB i (p.getD i default))=true:=zB1.2 fun i hi=>by rw [h1 i hi]; rfl
    simp only [nameB,this,Bool.true_and]
    congr 1
    rw [Bool.eq_iff_iff]; simp only [decide_eq_true_eq]; omega
   ·refine ⟨_,rfl,?_⟩
    have : ((List.range p.length).all fun i=>!badB i (p.getD i default))=false:=by
     rw [Bool.eq_false_iff]; intro hc; have:=zB1.1 hc i hi; rw [h1] at this; cases this
    simp only [nameB,this,Bool.false_and]
 exact h1.eq
def wayB (k:Int) : Bool:=decide (1≤k)&&decide (k≤3)
def roleB (r:RoleT) : Bool:=wayB r.2.2.2.1&&wayB r.2.2.2.2.1&&wayB r.2.2.2.2.2&&nameB r.1&&(decide (r.2.1=0)||decide (r.2.1=1))&&decide (0≤r.2.2.1)&&decide (r.2.2.1≤100)
theorem ways_any (a b c:Int) : ([a,b,c].any fun k=>!wayB k)=!(wayB a&&wayB b&&wayB c):=by
 simp only [List.any_cons,List.any_nil,Bool.or_false,Bool.not_and,Bool.or_assoc]
theorem f76_eq (r:RoleT) (h:r.1.length≤100000) : f76 r=some (roleB r):=by
 have h1 : Tot (f76 r) (fun b=>b=roleB r):=by
  unfold f76
  refine Tot.bind (zCE (p:=[r.2.2.2.1,r.2.2.2.2.1,r.2.2.2.2.2]) (g:=f76_b0 r) (fun k=>!wayB k) (fun _=>()) (fun i s=>?_)) fun o ho=>?_
  ·unfold f76_b0
   congr 1
   funext k
   congr 1
   rw [Bool.eq_iff_iff]
   simp only [wayB,Bool.or_eq_true,decide_eq_true_eq,Bool.not_eq_true',Bool.and_eq_false_iff,decide_eq_false_iff_not]
   omega
  ·rw [ways_any] at ho
   rcases ho with ⟨rfl,h1⟩ | ⟨i,_,rfl,_,h1,_⟩
   ·simp only [f73_eq _ h,Option.bind_some]
    refine zAB ?_
    simp only [Bool.not_eq_false'] at h1
    simp only [roleB,h1,Bool.true_and]
   ·refine ⟨_,rfl,?_⟩
    simp only [Bool.not_eq_true'] at h1
    simp only [roleB,h1,Bool.false_and]
 exact h1.eq
def sortB (s:SortT) : Bool:=((List.range s.2.length).all fun i=>roleB (s.2.getD i default)&&!((s.2.take i).any fun y=>decide (y.1=(s.2.getD i default).1)))&&nameB s.1&&decide (2≤s.2.length)&&decide (s.2.length≤3)
def shortS (s:SortT) : Prop:=s.1.length≤60∧s.2.length≤5∧∀ r∈s.2,r.1.length≤60
theorem f25_eq (s:SortT) (h:shortS s) : f25 s=some (sortB s):=by
 have h1 : Tot (f25 s) (fun b=>b=sortB s):=by
  unfold f25
  refine Tot.bind (zCs (p:=s.2) (g:=f25_b0 s) (fun i r=>!(roleB r&&!((s.2.take i).any fun y=>decide (y.1=r.1)))) (fun i u hi=>?_)) fun o ho=>?_
  ·unfold f25_b0
   have hr : (s.2.getD i default).1.length≤100000:=Nat.le_trans (h.2.2 _ (zBV hi)) (by omega)
   rw [zBW hi]
   simp only [Option.bind_some,f76_eq _ hr]
   rw [slOk_t (by omega) (by omega) (by omega)]
   rw [f77_eq (p:=(s.2.take (Int.toNat (i:Int))).drop (Int.toNat 0)) (fun y=>decide (y.1=(s.2.getD i default).1)) (fun y _=>by
    show some _=some _
    rw [eq_comm])]
   simp only [Bool.or_true,cond_true,Option.isSome_some,Option.getD_some,Int.toNat_natCast,Int.toNat_zero,List.drop_zero]
   congr 1
   simp only [Bool.not_and,Bool.not_not]
  ·rcases ho with ⟨rfl,h1⟩ | ⟨rfl,i,hi,h1⟩
   ·simp only [f73_eq s.1 (Nat.le_trans h.1 (by omega)),Option.bind_some]
    refine zAB ?_
    have : ((List.range s.2.length).all fun i=>roleB (s.2.getD i default)&&!((s.2.take i).any fun y=>decide (y.1=(s.2.getD i default).1)))=true:=zB1.2 fun i hi=>by have:=h1 i hi; simpa only [Bool.not_eq_false'] using this
    simp only [sortB,this,Bool.true_and]
    rw [Bool.eq_iff_iff]; simp only [Bool.and_eq_true,decide_eq_true_eq]
    constructor <;> rintro ⟨⟨h1,h2⟩,h3⟩ <;> exact ⟨⟨h1,by omega⟩,by omega⟩
   ·refine ⟨_,rfl,?_⟩
    have : ((List.range s.2.length).all fun i=>roleB (s.2.getD i default)&&!((s.2.take i).any fun y=>decide (y.1=(s.2.getD i default).1)))=false:=by
     rw [Bool.eq_false_iff]; intro hc; have h2:=zB1.1 hc i hi
     rw [Bool.not_eq_true'] at h1
     rw [h2] at h1; cases h1
    simp only [sortB,this,Bool.false_and]
 exact h1.eq
def earlyR (s:SortT) (i:Nat) : Bool:=(s.2.take i).any fun y=>decide (y.1=(s.2.getD i default).1)
theorem f29_b0_eq (s:SortT) (h:shortS s) (i:Nat) (hi:i < s.2.length) (u:Unit) : f29_b0 s (i:Int) u=bif !(roleB (s.2.getD i default)&&!earlyR s i) then some (.inr ()) else some (.inl ()):=by
 have hr : (s.2.getD i default).1.length≤100000:=Nat.le_trans (h.2.2 _ (zBV hi)) (by omega)
 have h1 : Tot (f29_b0 s (i:Int) u) (fun o=>o=bif !(roleB (s.2.getD i default)&&!earlyR s i) then .inr () else .inl ()):=by
  unfold f29_b0
  refine zA2 hi (zAi (slOk_t (by omega) (by omega) (by omega)) ?_)
  refine (zCE (g:=f29_b1 s (i:Int) (s.2.getD i default)) (fun x:RoleT=>decide (x.1=(s.2.getD i default).1)) (fun _=>()) (fun j u=>rfl)).bind fun o ho=>?_
  simp only [Int.toNat_natCast,Int.toNat_zero,List.drop_zero] at ho
  rcases ho with ⟨rfl,h1⟩ | ⟨j,_,rfl,_,h1,_⟩
  ·have he : earlyR s i=false:=h1
   refine (zCE (g:=f29_b2 (s.2.getD i default)) (fun k=>!wayB k) (fun _=>()) (fun j u=>?_)).bind fun o ho=>?_
   ·unfold f29_b2
    congr 1
    funext k
    congr 1
    rw [Bool.eq_iff_iff]
    simp only [wayB,Bool.or_eq_true,decide_eq_true_eq,Bool.not_eq_true',Bool.and_eq_false_iff,decide_eq_false_iff_not]
    omega
   ·rw [ways_any] at ho
    rcases ho with ⟨rfl,h2⟩ | ⟨j,_,rfl,_,h2,_⟩
    ·simp only [Bool.not_eq_false'] at h2
     simp only [f80_eq _ hr,Option.bind_some]
     have : (!(roleB (s.2.getD i default)&&!earlyR s i))=((((!nameB (s.2.getD i default).1||decide ((s.2.getD i default).2.1 < 0))||decide (1 < (s.2.getD i default).2.1))||decide ((s.2.getD i default).2.2.1 < 0))||decide (100 < (s.2.getD i default).2.2.1)):=by
      rw [he,Bool.not_false,Bool.and_true,roleB,h2,Bool.true_and,Bool.eq_iff_iff]
      simp only [Bool.or_eq_true,decide_eq_true_eq,Bool.not_eq_true',Bool.and_eq_false_iff,decide_eq_false_iff_not,Bool.or_eq_false_iff]
      cases nameB (s.2.getD i default).1
      ·simp
      ·simp only [Bool.true_eq_false,false_or]; omega
     rw [this]
     refine zAR (fun h=>?_) (fun h=>?_) <;> rw [h] <;> exact zAB rfl
    ·refine zAB ?_
     simp only [Bool.not_eq_true'] at h2
     rw [roleB,h2]; rfl
  ·refine zAB ?_
   have he : earlyR s i=true:=h1
   rw [he]; simp
 rw [h1.eq]; cases (!(roleB (s.2.getD i default)&&!earlyR s i)) <;> rfl
theorem f29_eq (s:SortT) (h:shortS s) : f29 s=some (sortB s):=by
 have h1 : Tot (f29 s) (fun b=>b=sortB s):=by
  unfold f29
  rw [f80_eq s.1 (Nat.le_trans h.1 (by omega))]
  simp only [Option.bind_some]
  have hs : sortB s=(((List.range s.2.length).all fun i=>roleB (s.2.getD i default)&&!earlyR s i)&&nameB s.1&&decide (2≤s.2.length)&&decide (s.2.length≤3)):=rfl
  refine zAR (fun h1=>?_) (fun h1=>?_)
  ·refine zAB ?_
   symm
   rw [hs,Bool.eq_false_iff]
   simp only [Bool.or_eq_true,Bool.not_eq_true',decide_eq_true_eq,Bool.and_eq_true,ne_eq] at h1 ⊢
   rintro ⟨⟨⟨_,h2⟩,h3⟩,h4⟩
   rcases h1 with (h1 | h1) | h1
   ·rw [h1] at h2; cases h2
   ·omega
   ·omega
  ·simp only [Bool.or_eq_false_iff,Bool.not_eq_false',decide_eq_false_iff_not] at h1
   refine (zCs (p:=s.2) (g:=f29_b0 s) (fun i r=>!(roleB (s.2.getD i default)&&!earlyR s i)) (fun i u hi=>f29_b0_eq s h i hi u)).bind fun o ho=>?_
   rcases ho with ⟨rfl,h2⟩ | ⟨rfl,i,hi,h2⟩
   ·refine zAB ?_
    symm
    rw [hs]
    have : ((List.range s.2.length).all fun i=>roleB (s.2.getD i default)&&!earlyR s i)=true:=zB1.2 fun i hi=>by have:=h2 i hi; simpa only [Bool.not_eq_false'] using this
    rw [this,h1.1.1]
    simp only [Bool.true_and,Bool.and_eq_true,decide_eq_true_eq]; omega
   ·refine zAB ?_
    symm
    rw [hs]
    have : ((List.range s.2.length).all fun i=>roleB (s.2.getD i default)&&!earlyR s i)=false:=by
     rw [Bool.eq_false_iff]; intro hc; have h3:=zB1.1 hc i hi
     rw [Bool.not_eq_true'] at h2
     rw [h2] at h3; cases h3
    rw [this]; simp
 exact h1.eq
def earlyS (p:List SortT) (i:Nat) : Bool:=(p.take i).any fun y=>decide (y.1=(p.getD i default).1)
def zB8 (p:List SortT) : Bool:=((List.range p.length).all fun i=>sortB (p.getD i default)&&!earlyS p i)&&decide (p.length≤20)
theorem f8_b0_eq (p:List SortT) (h:∀ s∈p,shortS s) (i:Nat) (hi:i < p.length) (u:Unit) : f8_b0 p (i:Int) u=bif !(sortB (p.getD i default)&&!earlyS p i) then some (.inr ()) else some (.inl ()):=by
 unfold f8_b0
 rw [zBW hi]
 simp only [Option.bind_some,f25_eq _ (h _ (zBV hi))]
 rw [slOk_t (by omega) (by omega) (by omega)]
 rw [f26_eq (p:=(p.take (Int.toNat (i:Int))).drop (Int.toNat 0)) (q:=fun y1=>f27 y1 (p.getD i default)) (fun y=>decide (y.1=(p.getD i default).1)) (fun y _=>rfl)]
 simp only [Bool.or_true,cond_true,Option.isSome_some,Option.getD_some,Int.toNat_natCast,Int.toNat_zero,List.drop_zero]
 congr 1
 simp only [Bool.not_and,Bool.not_not]
 rfl
theorem f9_b0_eq (p:List SortT) (h:∀ s∈p,shortS s) (i:Nat) (hi:i < p.length) (u:Unit) : f9_b0 p (i:Int) u=bif !(sortB (p.getD i default)&&!earlyS p i) then some (.inr ()) else some (.inl ()):=by
 unfold f9_b0
 rw [zBW hi]
 simp only [Option.bind_some,f29_eq _ (h _ (zBV hi))]
 cases hs : sortB (p.getD i default)
 ·rfl
 ·simp only [Bool.not_true,cond_false,Bool.true_and,Bool.not_not]
  rw [slOk_t (by omega) (by omega) (by omega)]
  have h1:=zCE (p:=(p.take (Int.toNat (i:Int))).drop (Int.toNat 0)) (g:=f9_b1 p (i:Int) (p.getD i default)) (fun x:SortT=>decide (x.1=(p.getD i default).1)) (fun _=>()) (fun j u=>rfl)
  obtain ⟨o,ho,h1⟩:=h1
  rw [ho]
  simp only [Int.toNat_natCast,Int.toNat_zero,List.drop_zero] at h1
  have he : earlyS p i=(p.take i).any fun x=>decide (x.1=(p.getD i default).1):=rfl
  rcases h1 with ⟨rfl,h2⟩ | ⟨j,_,rfl,_,h2,_⟩
  ·rw [he,h2]; rfl
  ·rw [he,h2]; rfl
theorem zCB {p:List SortT} : zB8 p=true↔(∀ i,i < p.length→(sortB (p.getD i default)&&!earlyS p i)=true)∧p.length≤20:=by
 rw [zB8,Bool.and_eq_true,zB1,decide_eq_true_eq]
theorem f8_eq (p:List SortT) (h:∀ s∈p,shortS s) (hl:p.length≤25) : f8 p=some (bif zB8 p then (0,some (p,[],[],1,1)) else (1,none)):=by
 have h1 : Tot (f8 p) (fun r=>r=bif zB8 p then (0,some (p,[],[],1,1)) else (1,none)):=by
  unfold f8
  refine (zCs (p:=p) (g:=f8_b0 p) (fun i r=>!(sortB (p.getD i default)&&!earlyS p i)) (fun i u hi=>f8_b0_eq p h i hi u)).bind fun o ho=>?_
  rcases ho with ⟨rfl,h2⟩ | ⟨rfl,i,hi,h2⟩
  ·refine zAR (fun h3=>?_) (fun h3=>?_)
   ·have : zB8 p=false:=by
     rw [Bool.eq_false_iff]; intro hc; have:=(zCB.1 hc).2
     simp only [decide_eq_true_eq] at h3; omega
    rw [this]; exact zAB rfl
   ·have : zB8 p=true:=zCB.2 ⟨fun i hi=>by have:=h2 i hi; simpa only [Bool.not_eq_false'] using this,by simp only [decide_eq_false_iff_not] at h3; omega⟩
    rw [this,zBS]
    refine (zAq (fun i s=>s=p.take i) rfl fun i s hi hs=>?_).bind fun o ho=>?_
    ·subst hs
     unfold f8_b1
     refine zA2 hi ?_
     have hk:=(h _ (zBV (d:=default) hi)).2.1
     have hc : f28 (p.getD i default).2=some (p.getD i default).2:=by
      unfold f28
      rw [zBf (by simp only [List.length_nil,Nat.zero_add]; omega)]; rfl
     rw [hc]
     simp only [Option.bind_some]
     refine zAi (zBf (by rw [List.length_take,List.length_singleton]; omega)) (zAB ⟨_,rfl,?_⟩)
     rw [zCx default hi]
    ·obtain ⟨s',rfl,rfl⟩:=ho
     rw [List.take_length]; exact zAB rfl
  ·have : zB8 p=false:=by
    rw [Bool.eq_false_iff]; intro hc; have:=(zCB.1 hc).1 i hi
    rw [this] at h2; cases h2
   rw [this]; exact zAB rfl
 exact h1.eq
theorem f9_eq (p:List SortT) (h:∀ s∈p,shortS s) : f9 p=some (bif zB8 p then (0,some (p,[],[],1,1)) else (1,none)):=by
 have h1 : Tot (f9 p) (fun r=>r=bif zB8 p then (0,some (p,[],[],1,1)) else (1,none)):=by
  unfold f9
  refine (zCs (p:=p) (g:=f9_b0 p) (fun i r=>!(sortB (p.getD i default)&&!earlyS p i)) (fun i u hi=>f9_b0_eq p h i hi u)).bind fun o ho=>?_
  rcases ho with ⟨rfl,h2⟩ | ⟨rfl,i,hi,h2⟩
  ·refine zAR (fun h3=>?_) (fun h3=>?_)
   ·have : zB8 p=false:=by
     rw [Bool.eq_false_iff]; intro hc; have:=(zCB.1 hc).2
     simp only [decide_eq_true_eq] at h3; omega
    rw [this]; exact zAB rfl
   ·have : zB8 p=true:=zCB.2 ⟨fun i hi=>by have:=h2 i hi; simpa only [Bool.not_eq_false'] using this,by simp only [decide_eq_false_iff_not] at h3; omega⟩
    rw [this]; exact zAB rfl
  ·have : zB8 p=false:=by
    rw [Bool.eq_false_iff]; intro hc; have:=(zCB.1 hc).1 i hi
    rw [this] at h2; cases h2
   rw [this]; exact zAB rfl
 exact h1.eq
theorem zBj {α:Type} [DecidableEq α] : ∀ {l m:List α},l.Nodup→(∀ x∈l,x∈m)→l.length≤m.length:=by
 intro l
 induction l with
 | nil=>intro m _ _; exact Nat.zero_le _
 | cons a l ih =>
  intro m hn hs
  have ha : a∈m:=hs a (by simp)
  have h1:=ih (m:=m.erase a) (List.nodup_cons.1 hn).2 fun x hx=>by
   have hne : x≠a:=fun he=>(List.nodup_cons.1 hn).1 (he ▸ hx)
   exact (List.mem_erase_of_ne hne).2 (hs x (by simp [hx]))
  rw [List.length_erase_of_mem ha] at h1
  have : 0 < m.length:=List.length_pos_of_mem ha
  simp only [List.length_cons]; omega
theorem nodup_range {l:List Int}{B:Int}(hn:l.Nodup) (h:∀ x∈l,1≤x∧x < B) : (l.length : Int)≤B∨l=[]:=by
 rcases l with _ | ⟨a,l⟩
 ·exact .inr rfl
 ·left
  have h1 : (a::l).length≤((List.range B.toNat).map fun n : Nat=>(n:Int)).length:=zBj hn fun x hx=>by
   have:=h x hx
   exact List.mem_map.2 ⟨x.toNat,List.mem_range.2 (by omega),by omega⟩
  rw [List.length_map,List.length_range] at h1
  have:=h a (by simp)
  omega
theorem mget_mem {α β:Type} [DecidableEq α] : ∀ {x:List (α×β)}{k:α}{v:β},mget x k=some v→(k,v)∈x:=by
 intro x
 induction x with
 | nil=>intro k v h; simp [mget] at h
 | cons p x ih =>
  intro k v h
  obtain ⟨a,b⟩:=p
  simp only [mget] at h
  split at h
  ·next he=>simp only [Option.some.injEq] at h; subst h; simp [← he]
  ·exact List.mem_cons_of_mem _ (ih h)
theorem mem_mget {α β:Type} [DecidableEq α] : ∀ {x:List (α×β)}{k:α}{v:β},(x.map (·.1)).Nodup→(k,v)∈x→mget x k=some v:=by
 intro x
 induction x with
 | nil=>intro k v _ h; simp at h
 | cons p x ih =>
  intro k v hn h
  obtain ⟨a,b⟩:=p
  simp only [List.map_cons,List.nodup_cons] at hn
  simp only [mget]
  rcases List.mem_cons.1 h with h | h
  ·simp only [Prod.mk.injEq] at h; rw [if_pos h.1,h.2]
  ·have : ¬ k=a:=fun he=>hn.1 (he ▸ List.mem_map.2 ⟨_,h,rfl⟩)
   rw [if_neg this]; exact ih hn.2 h
theorem zBk {α β:Type} [DecidableEq α] {x:List (α×β)}{k:α} : k∈x.map (·.1)↔(mget x k).isSome=true:=by
 cases h : mget x k with
 | none=>simp [mget_none_iff.1 h]
 | some v=>exact ⟨fun _=>rfl,fun _=>List.mem_map.2 ⟨_,mget_mem h,rfl⟩⟩
theorem mset_mem {α β:Type} [DecidableEq α] : ∀ {x:List (α×β)}{k:α}{v:β}{e:α×β},e∈mset x k v→e=(k,v)∨e∈x:=by
 intro x
 induction x with
 | nil=>intro k v e h; simp [mset] at h; exact .inl h
 | cons p x ih =>
  intro k v e h
  obtain ⟨a,b⟩:=p
  simp only [mset] at h
  split at h
  ·rcases List.mem_cons.1 h with h | h
   ·exact .inl h
   ·exact .inr (List.mem_cons_of_mem _ h)
  ·rcases List.mem_cons.1 h with h | h
   ·exact .inr (by rw [h]; simp)
   ·rcases ih h with h | h
    ·exact .inl h
    ·exact .inr (List.mem_cons_of_mem _ h)
theorem zBc {α β:Type} [DecidableEq α] {x:List (α×β)}{k q:α}{v:β} : q∈(mset x k v).map (·.1)↔q=k∨q∈x.map (·.1):=by
 rw [mset_keys]; split
 ·next h=>exact ⟨.inr,fun h1=>h1.elim (fun e=>e ▸ h) id⟩
 ·rw [List.mem_append,List.mem_singleton]; exact ⟨fun h=>h.symm,fun h=>h.symm⟩
theorem mset_length {α β:Type} [DecidableEq α] {x:List (α×β)}{k:α}{v:β} : (mset x k v).length≤x.length+1:=by
 have h:=congrArg List.length (mset_keys x k v)
 rw [List.length_map] at h
 split at h <;> simp at h <;> omega
theorem mset_length_in {α β:Type} [DecidableEq α] {x:List (α×β)}{k:α}{v:β}(hk:k∈x.map (·.1)) : (mset x k v).length=x.length:=by
 have h:=congrArg List.length (mset_keys x k v)
 rw [if_pos hk,List.length_map,List.length_map] at h; exact h
theorem zCo {α β:Type} [DecidableEq α] : ∀ {x:List (α×β)}{k:α}{e:α×β},(x.map (·.1)).Nodup→(e∈mdel x k↔e∈x∧e.1≠k):=by
 intro x
 induction x with
 | nil=>intro k e _; simp [mdel]
 | cons p x ih =>
  intro k e hn
  obtain ⟨a,b⟩:=p
  simp only [List.map_cons,List.nodup_cons] at hn
  simp only [mdel]
  split
  ·next he =>
   subst he
   constructor
   ·intro h; exact ⟨List.mem_cons_of_mem _ h,fun he=>hn.1 (he ▸ List.mem_map.2 ⟨_,h,rfl⟩)⟩
   ·rintro ⟨h,h1⟩
    rcases List.mem_cons.1 h with h | h
    ·exact absurd (by rw [h]) h1
    ·exact h
  ·next he =>
   rw [List.mem_cons,ih hn.2,List.mem_cons]
   constructor
   ·rintro (h | h)
    ·subst h; exact ⟨.inl rfl,fun h=>he h.symm⟩
    ·exact ⟨.inr h.1,h.2⟩
   ·rintro ⟨h | h,h1⟩
    ·exact .inl h
    ·exact .inr ⟨h,h1⟩
theorem skeys_t {α:Type}{x:List (Int×α)}{B:Int}(hn:(x.map (·.1)).Nodup) (hk:∀ k∈x.map (·.1),1≤k∧k < B) (hB:B≤1000000000) : skeys x=some (zBT (x.map (·.1))):=by
 have hl : x.length≤1000000000:=by
  rcases nodup_range hn hk with h | h
  ·rw [List.length_map] at h; omega
  ·have : x.length=0:=by rw [← List.length_map (f:=(·.1)),h]; rfl
   omega
 unfold skeys
 have h1 : (x.all fun p=>decide (-9223372036854775808≤p.1)&&decide (p.1≤9223372036854775807))=true:=by
  rw [List.all_eq_true]; intro p hp
  have:=hk p.1 (List.mem_map.2 ⟨p,hp,rfl⟩)
  simp only [Bool.and_eq_true,decide_eq_true_eq]; omega
 have h2 : Nat.ble x.length 1000000000000=true:=by rw [Nat.ble_eq]; omega
 rw [h1,h2]; rfl
theorem zBv {l:List Int}{k:Int} : k∈zBT l↔k∈l:=(zBw l).mem_iff
theorem zCN {l:List Int} : (zBT l).length=l.length:=(zBw l).length_eq
end Go.Ab
