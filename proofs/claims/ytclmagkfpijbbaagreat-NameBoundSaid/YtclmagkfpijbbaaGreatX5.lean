/- Lemmas for a law of the seat: what functions of the program do, each stated as a contract of its own (X5). -/
import Derived.Test.YtclmagkfpijbbaaGreatX3
import Derived.Test.YtclmagkfpijbbaaGreatX4
import Derived.Laws.RangeString
import Derived.Laws.RangeAny
set_option linter.unusedVariables false
set_option maxRecDepth 100000
set_option maxHeartbeats 4000000
namespace Go.Ab
open Go.RowKit Go.Shelf Go.Proofs Go.Eng
theorem bs47 : BuildS Tryz.prog 47 3 (.int .i64):=zCh (z:=.int .i64 0) (by kernel_rfl) (by kernel_rfl) rfl
theorem ent41 : Enters Tryz.prog 41:=enters_of Tryz.func41 (by kernel_rfl) rfl
theorem ent69 : Enters Tryz.prog 69:=enters_of Tryz.func69 (by kernel_rfl) rfl
theorem ent68 : Enters Tryz.prog 68:=enters_of Tryz.func68 (by kernel_rfl) rfl
theorem ent44 : Enters Tryz.prog 44:=enters_of Tryz.func44 (by kernel_rfl) rfl
theorem ent67 : Enters Tryz.prog 67:=enters_of Tryz.func67 (by kernel_rfl) rfl
theorem eq36 {a0 b0:ByteArray}{a1 b1:ByteArray}{a2 b2:ByteArray}{a3 b3:Int}{a4 b4:Bool} : EqT Tryz.prog 36 [.string a0,.string a1,.string a2,.int .i64 a3,.bool a4] [.string b0,.string b1,.string b2,.int .i64 b3,.bool b4]:=⟨by kernel_rfl,fun w=>run_eqNest (f0:=(Tryz.prog.fieldsOf 36).toList.head!) (fs:=(Tryz.prog.fieldsOf 36).toList.tail) (gs:=(Tryz.prog.fieldsOf 34).toList) (X0:=[.string a0,.string a1]) (Y0:=[.string b0,.string b1]) (by kernel_rfl) (by kernel_rfl) (by kernel_rfl) (by kernel_rfl) (by kernel_rfl) (by kernel_rfl) (szX 34 rfl) (by kernel_rfl) (by kernel_rfl) (by kernel_rfl) (by kernel_rfl) (by kernel_rfl)⟩
theorem zw4 : ZeroW Tryz.prog 4 .bool:=zeroW_of (z:=.bool false) (fun w=>by kernel_rfl) rfl (fun _=>rfl)
theorem ent55 : Enters Tryz.prog 55:=enters_of Tryz.func55 (by kernel_rfl) rfl
theorem ent57 : Enters Tryz.prog 57:=enters_of Tryz.func57 (by kernel_rfl) rfl
theorem ent56 : Enters Tryz.prog 56:=enters_of Tryz.func56 (by kernel_rfl) rfl
theorem g31_runs {p0_0:ZP}{p1:Int}{r:Int×(ZP)}(hr:g31 p0_0 p1=some r) : Runs Tryz.prog 31 [.ptr 0 0,.i p1] [.tr E64 (some p0_0)] (fun q Hq=>q=[.i r.1]∧Hq=[.tr E64 (some r.2)]):=by
 refine zAW Tryz.func31 Tryz.ntmps31 rfl (rs:=[.tmp 4]) rfl rfl fun w0 X hX=>?_
 obtain ⟨x2,e3,hr⟩:=zA hr
 refine sq<|rg<|V va<|nl<|an<|sq<|sq<|rg<|V vm<|V vm<|?_
 refine V (zAM (t:=.i) (qs:=[(0,[.i p1])]) (ys:=[p1]) bs47 rfl rfl rfl rfl rfl rfl rfl rfl)<|?_
 refine zAG (zAd (i:=0) [.map 1,.i p0_0.2.1,.i p0_0.2.2] [.mpt .i (.mp Y1 (.dat (.raw ifN))) p0_0.1 []] rfl rfl rfl rfl)<|V (zAj (as':=[.ptr 0 0,.sl .i [p1]]) (g41_runs e3).x ent41 rfl ⟨cv0,cv0,trivial⟩ rfl rfl)<|V va<|nl<|an<|sq<|rg<|V vm<|V vne<|nl<|an<|?_
 refine cnd (fun hc4 hr=>?_) (fun hc4 hr=>?_)
 ·refine sq<|rg<|V vm<|V va<|?_
  obtain rfl:=Option.some.inj hr
  exact nl<|an<|cr<|zAC (zAe (l':=[(4,.i x2)]) (Hs:=[(0,.tr E64 (some p0_0))]) (n:=1) (Wk.trans (pk (i:=0) (e:=F64) (js:=[1]) p0_0) (zAA hX [0] 4 rfl rfl wS wO)) rfl rfl rfl ⟨rfl,trivial⟩)
 ·refine sk<|an<|sq<|sq<|?_
  obtain ⟨h5,hr⟩:=zAN hr
  refine zAY (wk_open (i:=1) (kx:=p1) (yx:=((mget p0_0.1 p1).getD [])) [.map Y1 (.raw ifN) ((mget p0_0.1 p1).getD [])] rfl rfl (zDH h5) (fun n h=>by cases h) rfl rfl)<|?_
  refine zAa [0,1,4] [(true,.i p1),(true,.bool (decide (p1=0))),(true,.bool (decide (p1=0))),(!(decide (p1=0)),.ptr 0 0),(!(decide (p1=0)),.ptr 0 0),(!(decide (p1=0)),.ptr 0 0),(!(decide (p1=0)),.map 1),(!(decide (p1=0)),.i p1),(!(decide (p1=0)),.map 2),(!(decide (p1=0)),.i (List.length ((mget p0_0.1 p1).getD []) : Int)),(!(decide (p1=0)),.bool (decide (0 < (List.length ((mget p0_0.1 p1).getD []) : Int)))),(true,.bool ((decide (p1=0))||(decide (0 < (List.length ((mget p0_0.1 p1).getD []) : Int)))))] [[],[0],[1],[2],[3,2],[4,2],[5,2],[2],[6,7,2],[8,2],[9,2],[10,2]] [11] rfl rfl rfl rfl rfl ⟨?_,?_,?_,?_,?_,?_,?_,?_,?_,?_,?_,?_,trivial⟩ (zAD ⟨rfl,trivial⟩) ?_
  ·exact oB wm
  ·exact oB weq
  ·exact oB wm
  ·exact oB wm
  ·exact oB wnp
  ·exact oB wfp
  ·exact oB wlp
  ·exact oB wm
  ·exact zAr ⟨rfl,rfl,rfl,_,rfl,rfl⟩ (fun hg=>zAD ⟨hg,hg,rfl,trivial⟩) (fun hg=>av_look_own (n:=2) (kx:=p1) (yx:=((mget p0_0.1 p1).getD [])) (av:=.map 2) (r:=.map 2) (ok:=false) (undX 62 rfl) kt3 (zDB 61 rfl) rfl rfl rfl rfl (List.mem_cons.2 (.inl rfl)) (zDH h5) (.inl rfl) rfl)
  ·exact zAr ⟨rfl,rfl,rfl,_,rfl,rfl⟩ (fun hg=>zAD ⟨hg,rfl,trivial⟩) (fun hg=>zCa (tk:=Y1) (tv:=(.raw ifN)) rfl rfl (undX 61 rfl) rfl rfl)
  ·exact oB wgt
  ·exact zBr
  refine an<|?_
  refine cnd (fun hc6 hr=>?_) (fun hc6 hr=>?_)
  ·refine sq<|rg<|V va<|?_
   obtain rfl:=Option.some.inj hr
   exact nl<|an<|cr<|zAC (zAe (l':=[(4,.i 9)]) (Hs:=[(0,.tr E64 (some p0_0))]) (n:=1) (Wk.trans (zDT (i:=1) (n:=2) (kx:=p1) (hs':=[]) ((mget p0_0.1 p1).getD []) (js:=[2]) rfl (List.mem_cons.2 (.inl rfl)) (zDH h5) ⟨2,rfl,rfl,rfl⟩ rfl rfl holes1) (Wk.trans (pk (i:=0) (e:=F64) (js:=[1]) p0_0) (zAA hX [0] 4 rfl rfl wS wO))) rfl rfl rfl ⟨rfl,trivial⟩)
  ·refine sk<|an<|sq<|rg<|V vm<|V vnp<|V vfp<|V vlp<|V vm<|?_
   refine zAG (zDT (i:=1) (n:=2) (kx:=p1) (hs':=[]) ((mget p0_0.1 p1).getD []) (js:=[2]) rfl (List.mem_cons.2 (.inl rfl)) (zDH h5) ⟨2,rfl,rfl,rfl⟩ rfl rfl holes1)<|?_
   refine zAK (aop_mptDel (kx:=p1) rfl rfl rfl (undX 62 rfl) kt3 rfl rfl rfl rfl holes0 ?_)
   refine nl<|an<|sq<|rg<|V va<|?_
   obtain rfl:=Option.some.inj hr
   exact nl<|an<|cr<|zAe (l':=[(4,.i 0)]) (Hs:=[(0,.tr E64 (some ((mdel p0_0.1 p1),p0_0.2.1,p0_0.2.2)))]) (n:=1) (Wk.trans (pk (i:=0) (e:=F64) (js:=[1]) ((mdel p0_0.1 p1),p0_0.2.1,p0_0.2.2)) (zAA hX [0] 4 rfl rfl wS wO)) rfl rfl rfl ⟨rfl,trivial⟩
theorem g32_runs {p0_0:ZQ}{p1:Int}{r:Int×(ZQ)}(hr:g32 p0_0 p1=some r) : Runs Tryz.prog 32 [.ptr 0 0,.i p1] [.tr E70 (some p0_0)] (fun q Hq=>q=[.i r.1]∧Hq=[.tr E70 (some r.2)]):=by
 refine zAW Tryz.func32 Tryz.ntmps32 rfl (rs:=[.tmp 4]) rfl rfl fun w0 X hX=>?_
 obtain ⟨o2,e3,hr⟩:=zA hr
 refine sq<|rg<|V va<|nl<|an<|sq<|rg<|V vm<|V vm<|?_
 rcases o2 with x4 | x5
 ·refine zAK (zAP (σ:=[0]) (as':=[.ptr 0 0,.i p1]) (g51o_runs e3).x ent51 rfl ⟨cv0,cv0,trivial⟩ rfl rfl rfl ?_)
  refine V va<|nl<|an<|sq<|bl<|sq<|rg<|V vm<|?_
  refine V (av_nilnil (undX 108 rfl) rfl rfl)<|V va<|nl<|an<|?_
  refine zCZ rfl<|sq<|rg<|V va<|?_
  obtain rfl:=Option.some.inj hr
  exact nl<|an<|cr<|zAE (zAC (zAe (l':=[(4,.i 7)]) (Hs:=[(0,.tr E70 (some p0_0))]) (n:=1) (zAA hX [0] 4 rfl rfl wS wO) rfl rfl rfl ⟨rfl,trivial⟩))
 ·refine zAK (zAP (σ:=[0]) (as':=[.ptr 0 0,.i p1]) (g51o_runs e3).x ent51 rfl ⟨cv0,cv0,trivial⟩ rfl rfl rfl ?_)
  refine V va<|nl<|an<|sq<|bl<|sq<|rg<|V vm<|?_
  refine V (av_epnil (undX 108 rfl) rfl rfl)<|V va<|nl<|an<|?_
  refine zA3 rfl<|sq<|?_
  obtain ⟨h6,hr⟩:=zAN hr
  refine zAa [0,1,4,5] [(true,.i p1),(true,.bool (decide (p1=0))),(true,.bool (decide (p1=0))),(!(decide (p1=0)),.ep 1 2 x5 0),(!(decide (p1=0)),.ep 1 2 x5 0),(!(decide (p1=0)),.ep 1 2 x5 1),(!(decide (p1=0)),.sl Y3 ((((ix p0_0.1 (x5:Int)).getD default)).2)),(!(decide (p1=0)),.i (List.length ((((ix p0_0.1 (x5:Int)).getD default)).2) : Int)),(!(decide (p1=0)),.bool (decide (0 < (List.length ((((ix p0_0.1 (x5:Int)).getD default)).2) : Int)))),(true,.bool ((decide (p1=0))||(decide (0 < (List.length ((((ix p0_0.1 (x5:Int)).getD default)).2) : Int))))),(true,.bool ((decide (p1=0))||(decide (0 < (List.length ((((ix p0_0.1 (x5:Int)).getD default)).2) : Int)))))] [[],[0],[1],[2],[3,2],[4,2],[5,2],[6,2],[7,2],[8,2],[9]] [10] rfl rfl rfl rfl rfl ⟨?_,?_,?_,?_,?_,?_,?_,?_,?_,?_,?_,trivial⟩ (zAD ⟨rfl,trivial⟩) ?_
  ·exact oB wm
  ·exact oB weq
  ·exact oB wm
  ·exact oB wm
  ·exact zAr ⟨rfl,rfl,rfl,_,rfl,rfl⟩ (fun hg=>zAD ⟨hg,rfl,trivial⟩) (fun hg=>zDF rfl)
  ·exact zAr ⟨rfl,rfl,rfl,_,rfl,rfl⟩ (fun hg=>zAD ⟨hg,rfl,trivial⟩) (fun hg=>zDN (faX 67 1 rfl) rfl rfl)
  ·exact zAr ⟨rfl,rfl,rfl,_,rfl,rfl⟩ (fun hg=>zAD ⟨hg,rfl,trivial⟩) (fun hg=>zAu (tsX 65 rfl) rfl rfl rfl (zCM (zAz h6 hg)) rfl)
  ·exact zAr ⟨rfl,rfl,rfl,_,rfl,rfl⟩ (fun hg=>zAD ⟨hg,rfl,trivial⟩) (fun hg=>zA0 (t:=Y3) rfl rfl (undX 65 rfl) rfl)
  ·exact oB wgt
  ·exact zBr
  ·exact oB wa
  refine an<|?_
  refine cnd (fun hc7 hr=>?_) (fun hc7 hr=>?_)
  ·refine sq<|rg<|V va<|?_
   obtain rfl:=Option.some.inj hr
   exact nl<|an<|cr<|zAE (zAC (zAe (l':=[(4,.i 9)]) (Hs:=[(0,.tr E70 (some p0_0))]) (n:=1) (Wk.trans (pk (i:=0) (e:=F70) (js:=[1]) p0_0) (zAA hX [0] 4 rfl rfl wS wO)) rfl rfl rfl ⟨rfl,trivial⟩))
  ·obtain ⟨o13,e14,hr⟩:=zA hr
   refine sk<|bn<|an<|sq<|rg<|V va<|nl<|an<|sq<|sq<|rg<|V vm<|V vnp<|V vfp<|V vlp<|V vnL<|V vm<|nl<|an<|bl<|?_
   refine zA5 (i:=1) rfl rfl (fun hl=>?_)
   refine zAI (List.length p0_0.1 : Int) (g32_b0 p0_0 p1) (fun p=>match p with | (i8,s10)=>(⟨[(0,.ptr 0 0),(1,.i p1),(4,.i 0),(6,.osl 1),(29,.osl 2),(30,.i (List.length p0_0.1 : Int)),(31,.i i8)],[(0,.var 70 [.osl 2,.i p0_0.2]),(1,.sl 67 Y4 s10),(2,.sl 67 Y4 p0_0.1)],3⟩ : AS)) (fun o e st=>match o with | .inr _=>False | .inl s10=>e=.exit 1∧Wk X st ⟨[(0,.ptr 0 0),(4,.i 0),(6,.osl 1)],[(0,.var 70 [.osl 2,.i p0_0.2]),(1,.sl 67 Y4 s10),(2,.sl 67 Y4 p0_0.1)],3⟩) (zAf hl) e14 (Wk.trans (zAt (t:=6) 67 Y4 rfl) (by exact zAA hX [0,2,1] 4 rfl rfl wS wO)) ?_ ?_
   ·intro e st hx
    rcases o13 with s10 | _
    ·obtain ⟨rfl,hw⟩:=hx
     refine bh<|an<|(zAY hw)<|sq<|rg<|V vm<|V vm<|V vnp<|V vfp<|O os<|nl<|an<|sq<|rg<|V va<|?_
     obtain rfl:=Option.some.inj hr
     exact nl<|an<|cr<|zAe (l':=[(4,.i 0)]) (Hs:=[(0,.tr E70 (some (s10,p0_0.2)))]) (n:=1) (Wk.trans (pk (i:=0) (e:=F70) (js:=[1]) (s10,p0_0.2)) (zAA hX [0] 4 rfl rfl wS wO)) rfl rfl rfl ⟨rfl,trivial⟩
    ·exact hx.elim
   ·rintro i8 s10 o ho
    refine sq<|rg<|V vls<|nl<|an<|sq<|?_
    refine zAO (b:=decide (i8 < (List.length p0_0.1 : Int))) rfl (fun hc15=>?_) (fun hc15=>?_)
    ·obtain ⟨q,hr,rfl⟩:=zA7 hc15 ho
     obtain ⟨o17,e18,hr⟩:=zA hr
     refine sk<|an<|?_
     refine zAy (S:=(ZL)) (R:=Unit) (fun s=>match s with | s16=>(⟨[(0,.ptr 0 0),(1,.i p1),(4,.i 0),(6,.osl 1),(29,.osl 2),(30,.i (List.length p0_0.1 : Int)),(31,.i i8)],[(0,.var 70 [.osl 2,.i p0_0.2]),(1,.sl 67 Y4 s16),(2,.sl 67 Y4 p0_0.1)],3⟩ : AS)) (fun _ _ _=>False) e18 (fun hr=>?_) ?_ ?_
     ·obtain ⟨x19,e20,hr⟩:=zA hr
      refine bl<|sq<|rg<|V (zAn (t:=Y4) (undX 68 rfl) (szX 67 rfl) rfl rfl rfl e20)<|?_
      refine V (zB5 (tsX 67 rfl) rfl rfl rfl (zCM e20) rfl rfl)<|O oa<|O os<|nl<|an<|sq<|rg<|V vfp<|V vlp<|V vm<|V vne<|nl<|an<|?_
      refine cnd (fun hc21 hr=>?_) (fun hc21 hr=>?_)
      ·refine rg<|V vm<|V vlP<|?_
       refine V (zAM (t:=Y4) (qs:=[(0,[.i x19.1,.sl Y3 x19.2])]) (ys:=[x19]) bs68 rfl rfl rfl rfl rfl rfl rfl rfl)<|?_
       obtain ⟨h22,hr⟩:=zAN hr
       refine zAK (zAh rfl rfl app68 rfl rfl rfl h22 rfl ?_)
       refine V va<|?_
       obtain rfl:=Option.some.inj hr
       exact zAJ (zAS ((zAA hX [0,4,2] 4 rfl rfl wS wO)))
      ·obtain rfl:=Option.some.inj hr
       exact zAv (zAS ((zAA hX [0,1,2] 4 rfl rfl wS wO)))
     ·rintro s16 rfl
      refine rg<|V vad<|V vm<|?_
      obtain rfl:=Option.some.inj hr
      exact zAJ ((zAA hX [0,1,2] 4 rfl rfl wS wO))
     ·exact fun r h e st hne hx=>hx.elim
    ·obtain rfl:=zA8 hc15 ho
     exact zAH (zAF (⟨rfl,(zAA hX [0,1,2] 4 rfl rfl wS wO)⟩))
theorem g67_iter {σ R:Type}{r:σ ⊕ R}{m0:Mem}{L:Nat}{G:σ→Mem→Frag→Prop}{Gx:R→Mem→Frag→Prop}{q:σ→(ZC×zDL)→Option (σ ⊕ R)}{s0:σ}{p1:ZM}(hr:g67 q s0 p1=some r) (hY:∀ (s:σ) (x:ZC×zDL) (s':σ),q s x=some (.inl s')→zDk Tryz.prog L [.agg [.str x.1.1,.str x.1.2],.val x.2.1] true (G s) (G s')) (hYx:∀ (s:σ) (x:ZC×zDL) (r:R),q s x=some (.inr r)→zDk Tryz.prog L [.agg [.str x.1.1,.str x.1.2],.val x.2.1] false (G s) (Gx r)) : RunsX m0 Tryz.prog 67 [.yld L,.rp [.dm Y1 (.raw ifN) p1]] [.guest (G s0)] (fun rs H'=>rs=[]∧∃ Hc,H'=.guest (Sum.elim G Gx r)::Hc):=by
 refine runs_wX Tryz.func67 Tryz.ntmps67 rfl (rs:=[]) rfl rfl fun w0 X ex hm hX hxe=>?_
 obtain ⟨x1,e2,hr⟩:=zA hr
 refine sq<|rg<|V vlr<|?_
 refine zAK (zAP (σ:=[]) (as':=[.dm Y1 (.raw ifN) p1]) (k69_runs e2).x ent69 rfl ⟨cv0,trivial⟩ rfl rfl rfl ?_)
 obtain ⟨x3,e4,hr⟩:=zA hr
 refine zAK (zAP (σ:=[1]) (as':=[.fn 89 [] [.ptr 1 0],.fn 70 [] []]) (k68_89_runs e4).x ent68 rfl ⟨cv0,cv0,trivial⟩ rfl rfl rfl ?_)
 obtain ⟨o11,e12,hr⟩:=zA hr
 refine V vnL<|V vm<|nl<|an<|bl<|?_
 refine zA5 (i:=2) rfl rfl (fun hl=>?_)
 refine zAI (List.length x3 : Int) (g67_b0 q p1 x3) (fun p=>match p with | (i5,s7)=>(⟨[(0,.yld L),(1,.rp [.dm Y1 (.raw ifN) p1]),(7,.osl 1),(8,.i (List.length x3 : Int)),(9,.i i5)],[(0,.guest (G s7)),(1,.sl 34 Y1 x3)],2⟩ : AS)) (fun o e st=>match o with | .inl s7=>e=.exit 0∧Wk X st ⟨[],[(0,.guest (G s7))],1⟩ | .inr s10=>e=.ret∧Wk X st ⟨[],[(0,.guest (Gx s10))],1⟩) (zAf hl) e12 (by exact zAA hX [0,2] 4 rfl rfl wS wO) ?_ ?_
 ·intro e st hx
  rcases o11 with s7 | s10
  ·obtain ⟨rfl,hw⟩:=hx
   obtain rfl:=Option.some.inj hr
   exact zAl (zCz (ret_i (l':=[]) (Hs:=[(0,.guest (G s7))]) (n:=1) (Wk.trans hw (zAA hX [0] 4 rfl rfl trivial wO)) rfl rfl))
  ·obtain ⟨rfl,hw⟩:=hx
   obtain rfl:=Option.some.inj hr
   exact zAE (ret_i (l':=[]) (Hs:=[(0,.guest (Gx s10))]) (n:=1) (Wk.trans hw (zAA hX [0] 4 rfl rfl trivial wO)) rfl rfl)
 ·rintro i5 s7 o ho
  refine sq<|rg<|V vls<|nl<|an<|sq<|?_
  refine zAO (b:=decide (i5 < (List.length x3 : Int))) rfl (fun hc13=>?_) (fun hc13=>?_)
  ·obtain ⟨q,hr,rfl⟩:=zA7 hc13 ho
   obtain ⟨x14,e15,hr⟩:=zA hr
   refine sk<|an<|sq<|bl<|sq<|rg<|V (zAn (t:=Y1) (undX 23 rfl) (szX 34 rfl) rfl rfl rfl e15)<|?_
   refine V (zB5 (tsX 34 rfl) rfl rfl rfl (zCM e15) rfl rfl)<|O oa<|O os<|nl<|an<|sq<|?_
   refine zB0 5 [5,5,4,4,5] mixed [0,1,7,8,9,4] [(true,.yld L),(true,.agg [.str x14.1,.str x14.2]),(true,.dm Y1 (.raw ifN) p1),(true,.agg [.str x14.1,.str x14.2]),(true,.val ((mget p1 x14).getD ifN).1)] [[],[],[],[],[2,3]] [0,1,4] rfl rfl rfl rfl rfl rfl rfl rfl ⟨?_,?_,?_,?_,?_,trivial⟩ (zAD ⟨rfl,rfl,rfl,trivial⟩) ?_
   ·exact oB wm
   ·exact oB wlP
   ·exact oB wlr
   ·exact oB wlP
   ·exact zAr rfl (fun hg=>zAD ⟨rfl,rfl,trivial⟩) (fun hg=>zBA (kx:=x14) (r:=.val ((mget p1 x14).getD ifN).1) (undX 61 rfl) kt34 zw84 rfl rfl rfl rfl)
   obtain ⟨o16,e17,hr⟩:=zA hr
   rcases o16 with s18 | r19
   ·refine zAK (aop_yield (i:=0) (b:=true) (as':=[.agg [.str x14.1,.str x14.2],.val ((mget p1 x14).getD ifN).1]) rfl rfl rfl hxe rfl rfl (hY _ (x14,((mget p1 x14).getD ifN)) _ e17) ?_)
    refine V vno<|nl<|an<|?_
    refine zA3 rfl<|sk<|bn<|an<|rg<|V vad<|V vm<|?_
    obtain rfl:=Option.some.inj hr
    exact zAJ ((zAA hX [0,1] 4 rfl rfl wS wO))
   ·refine zAK (aop_yield (i:=0) (b:=false) (as':=[.agg [.str x14.1,.str x14.2],.val ((mget p1 x14).getD ifN).1]) rfl rfl rfl hxe rfl rfl (hYx _ (x14,((mget p1 x14).getD ifN)) _ e17) ?_)
    refine V vno<|?_
    obtain rfl:=Option.some.inj hr
    exact zAJ (zAZ (zCZ rfl (zAw (zAE (zAC (⟨rfl,(zAA hX [0] 4 rfl rfl trivial wO)⟩))))))
  ·obtain rfl:=zA8 hc13 ho
   exact zAH (zAF (⟨rfl,(zAA hX [0] 4 rfl rfl trivial wO)⟩))
theorem f67_runs {p0:ZM}{r:Unit}(hr:f67 p0=some r) : zBb Tryz.prog 44 [.dm Y1 (.raw ifN) p0] [.fn 67 [] [.rp [.dm Y1 (.raw ifN) p0]]]:=by
 refine zAW Tryz.func44 Tryz.ntmps44 rfl (rs:=[.tmp 2]) rfl rfl fun w0 X hX=>?_
 refine sq<|rg<|O ob<|V va<|nl<|an<|sq<|rg<|?_
 refine V (zA4 (us:=[]) (vs:=[.ptr 0 0]) rfl rfl)<|V va<|?_
 obtain rfl:=Option.some.inj hr
 exact nl<|an<|cr<|zAk (l':=[(2,.fn 67 [] [.rp [.dm Y1 (.raw ifN) p0]])]) (zAA hX [] 4 rfl rfl wS trivial) rfl ⟨rfl,trivial⟩
theorem g33_runs {p0:ZP}{p1:Int}{p2:Int}{p3:Int}{r:Int×Int×(ZE)}(hr:g33 p0 p1 p2 p3=some r) : Runs Tryz.prog 33 [.rp [.dm .i (.map Y1 (.raw ifN)) p0.1,.i p0.2.1,.i p0.2.2],.i p1,.i p2,.i p3] [] (fun q Hq=>q=[.osl 0,.i r.1,.i r.2.1]∧Hq=[.sl 36 Y3 r.2.2]):=by
 refine runs_wM Tryz.func33 Tryz.ntmps33 rfl (rs:=[.tmp 8,.tmp 9,.tmp 10]) rfl rfl rfl fun w0 X hX hxe=>?_
 obtain ⟨x2,e3,hr⟩:=zA hr
 refine sq<|rg<|O ob<|O ob<|V va<|V va<|V va<|nl<|an<|sq<|sq<|rg<|V vm<|V vm<|?_
 refine V (zAM (t:=.i) (qs:=[(0,[.i p1])]) (ys:=[p1]) bs47 rfl rfl rfl rfl rfl rfl rfl rfl)<|?_
 refine V (zAV (g41_runs e3).x ent41 rfl rfl)<|V va<|nl<|an<|sq<|rg<|V vm<|V vne<|nl<|an<|?_
 refine cnd (fun hc4 hr=>?_) (fun hc4 hr=>?_)
 ·refine sq<|rg<|V vm<|V va<|V va<|V va<|?_
  obtain rfl:=Option.some.inj hr
  exact nl<|an<|cr<|zAC (zAe (l':=[(8,.osl 0),(9,.i 0),(10,.i x2)]) (Hs:=[(0,.sl 36 Y3 ([] : ZE))]) (n:=1) (Wk.trans (zAt (t:=8) 36 Y3 rfl) (zAA hX [2] 4 rfl rfl wS wO)) rfl rfl rfl ⟨rfl,rfl,rfl,trivial⟩)
 ·refine sk<|an<|sq<|sq<|?_
  refine zAa [0,1,6,7,8,9,10] [(true,.i p2),(true,.bool (decide (p2 < 0))),(true,.bool (decide (p2 < 0))),(!(decide (p2 < 0)),.i p3),(!(decide (p2 < 0)),.bool (decide (p3 < 0))),(true,.bool ((decide (p2 < 0))||(decide (p3 < 0))))] [[],[0],[1],[2],[3,2],[4,2]] [5] rfl rfl rfl rfl rfl ⟨?_,?_,?_,?_,?_,?_,trivial⟩ (zAD ⟨rfl,trivial⟩) ?_
  ·exact oB wlp
  ·exact oB wls
  ·exact oB wm
  ·exact oB wlp
  ·exact oB wls
  ·exact zBr
  refine an<|?_
  refine cnd (fun hc5 hr=>?_) (fun hc5 hr=>?_)
  ·refine sq<|rg<|V va<|V va<|V va<|?_
   obtain rfl:=Option.some.inj hr
   exact nl<|an<|cr<|zAC (zAe (l':=[(8,.osl 0),(9,.i 0),(10,.i 7)]) (Hs:=[(0,.sl 36 Y3 ([] : ZE))]) (n:=1) (Wk.trans (zAt (t:=8) 36 Y3 rfl) (zAA hX [2] 4 rfl rfl wS wO)) rfl rfl rfl ⟨rfl,rfl,rfl,trivial⟩)
  ·obtain ⟨x6,e7,hr⟩:=zA hr
   obtain ⟨o16,e17,hr⟩:=zA hr
   refine sk<|an<|sq<|rg<|O oa<|nl<|an<|sq<|rg<|O oa<|O os<|nl<|an<|sq<|sq<|rg<|V vm<|V vnr<|V vfr<|V vlr<|V vm<|?_
   refine V (zBA (kx:=p1) (r:=.dm Y1 (.raw ifN) ((mget p0.1 p1).getD [])) (undX 62 rfl) kt3 zw61 rfl rfl rfl rfl)<|?_
   refine V (zAV (f67_runs e7).x ent44 rfl rfl)<|nl<|an<|bl<|?_
   refine zAY (st':=⟨[(6,.ptr 0 0),(7,.ptr 1 0),(8,.nils),(9,.i 0),(10,.i 0),(12,.ptr 2 0),(13,.ptr 3 0),(35,.fn 67 [] [.rp [.dm Y1 (.raw ifN) ((mget p0.1 p1).getD [])]])],[(0,.var 3 [.i p2]),(1,.var 3 [.i p3]),(2,.var 65 [.osl 4]),(3,.var 3 [.i 0]),(4,.sl 36 Y3 ([] : ZE))],5⟩) (Wk.trans (wk_ownC (i:=2) (o:=0) 36 Y3 rfl rfl rfl) (zAA hX [0,1,2,3,4] 4 rfl rfl wS wO)) (awc_rangeX (σ:=Int×(ZE)) (α:=ZC×zDL) (R:=Unit) [.rp [.dm Y1 (.raw ifN) ((mget p0.1 p1).getD [])]] [] 4 (g33_b0 p2 p3) (fun x=>[.agg [.str x.1.1,.str x.1.2],.val x.2.1]) [(6,.ptr 0 0),(7,.ptr 1 0),(8,.nils),(9,.i 0),(10,.i 0),(12,.ptr 2 0),(13,.ptr 3 0),(35,.fn 67 [] [.rp [.dm Y1 (.raw ifN) ((mget p0.1 p1).getD [])]])] (fun p=>match p with | (s10,s11)=>([(0,.var 3 [.i p2]),(1,.var 3 [.i p3]),(2,.var 65 [.osl 4]),(3,.var 3 [.i s10]),(4,.sl 36 Y3 s11)] : AH)) (fun _=>[]) (fun _=>.ret) 5 (fun _=>0) [] rfl rfl hxe rfl ent67 rfl rfl (fun _=>rfl) rfl (by rw [hX]; rfl) rfl rfl rfl rfl (fun L G Gx hY hYx=>g67_iter (q:=(g33_b0 p2 p3)) e17 hY hYx) ?_ (fun r=>rfl) ?_ ?_)
   ·intro w0 L X ex hm hX hxe
    rintro ⟨s10,s11⟩ ⟨y18,y19⟩ s' hr
    refine sq<|rg<|O oa<|O os<|nl<|an<|rg<|V va<|nl<|?_
    refine ranged<|?_
    intro w0 X ex hm hX hxe
    obtain ⟨o21,e22,hr⟩:=zA hr
    refine bl<|?_
    refine zAy (S:=(ZE)) (R:=Unit) (fun s=>match s with | s20=>(⟨[(6,.ptr 0 0),(7,.ptr 1 0),(8,.nils),(9,.i 0),(10,.i 0),(12,.ptr 2 0),(13,.ptr 3 0),(14,.ptr 4 0),(15,.val y19.1),(36,.agg [.str y18.1,.str y18.2]),(37,.val y19.1)],[(0,.var 3 [.i p2]),(1,.var 3 [.i p3]),(2,.var 65 [.osl 5]),(3,.var 3 [.i s10]),(4,.var 34 [.str y18.1,.str y18.2]),(5,.sl 36 Y3 s20)],6⟩ : AS)) (fun _ _ _=>False) e22 (fun hr=>?_) ?_ ?_
    ·refine sq<|?_
     refine zAa [6,7,8,9,10,12,13,36,37,14,15] [(true,.i s10),(true,.i p2),(true,.bool (decide (p2≤s10))),(true,.bool (decide (p2≤s10))),(decide (p2≤s10),.osl 4),(decide (p2≤s10),.i (List.length s11 : Int)),(decide (p2≤s10),.i p3),(decide (p2≤s10),.bool (decide ((List.length s11 : Int) < p3))),(true,.bool ((decide (p2≤s10))&&(decide ((List.length s11 : Int) < p3))))] [[],[],[0,1],[2],[3],[4,3],[3],[5,6,3],[7,3]] [8] rfl rfl rfl rfl rfl ⟨?_,?_,?_,?_,?_,?_,?_,?_,?_,trivial⟩ (zAD ⟨rfl,trivial⟩) ?_
     ·exact oB wlp
     ·exact oB wlp
     ·exact oB wge
     ·exact oB wm
     ·exact oB wlp
     ·exact zAr ⟨rfl,rfl,rfl,_,rfl,rfl⟩ (fun hg=>zAD ⟨hg,rfl,trivial⟩) (fun hg=>zC7 (t:=Y3) rfl rfl (undX 65 rfl) rfl rfl)
     ·exact oB wlp
     ·exact oB wls
     ·exact zBe
     refine an<|?_
     refine cnd (fun hc23 hr=>?_) (fun hc23 hr=>?_)
     ·obtain ⟨x24,e25,hr⟩:=zA hr
      refine zB0 5 [5,3,3,5,5] mixed [6,7,8,9,10,12,13,36,37,14,15] [(true,.osl 4),(true,.agg [.str y18.1,.str y18.2]),(true,.val y19.1),(true,.agg [.str x24.1.1,.str x24.1.2,.str x24.2.1,.i x24.2.2.1,.bool x24.2.2.2]),(true,.sl Y3 [x24])] [[],[],[],[1,2],[3]] [0,4] rfl rfl rfl rfl rfl rfl rfl rfl ⟨?_,?_,?_,?_,?_,trivial⟩ (zAD ⟨rfl,rfl,trivial⟩) ?_
      ·exact oB wlp
      ·exact oB wlP
      ·exact oB wm
      ·exact zAr rfl (fun hg=>zAD ⟨rfl,rfl,trivial⟩) (fun hg=>zAV (f28_runs e25).x ent39 rfl rfl)
      ·exact zAr rfl (fun hg=>zAD ⟨rfl,trivial⟩) (fun hg=>zAM (t:=Y3) (qs:=[(0,[.str x24.1.1,.str x24.1.2,.str x24.2.1,.i x24.2.2.1,.bool x24.2.2.2])]) (ys:=[x24]) bs65 rfl rfl rfl rfl rfl rfl rfl rfl)
      obtain ⟨h26,hr⟩:=zAN hr
      refine zAK (zAh rfl rfl app65 rfl rfl rfl h26 rfl ?_)
      refine O os<|?_
      obtain rfl:=Option.some.inj hr
      exact zAJ ((zAA hX [0,1,2,3,5,6] 4 rfl rfl wS wO))
     ·obtain rfl:=Option.some.inj hr
      exact zAv ((zAA hX [0,1,2,3,5,4] 4 rfl rfl wS wO))
    ·rintro s20 rfl
     refine rg<|V vlp<|V vad<|O os<|?_
     obtain rfl:=Option.some.inj hr
     exact zAJ (zAS (⟨rfl,(zAA hX [0,1,2,3,5] 4 rfl rfl trivial wO)⟩))
    ·exact fun r h e st hne hx=>hx.elim
   ·rintro ⟨s10,s11⟩ rfl
    refine bn<|an<|sq<|?_
    refine zBE mixed [12,13] [(true,.osl 4),(true,.i s10),(true,.osl 4),(true,.i s10),(true,.i 0)] [[],[],[0],[1],[]] [2,3,4] rfl rfl rfl rfl rfl ⟨?_,?_,?_,?_,?_,trivial⟩ (zAD ⟨rfl,rfl,rfl,trivial⟩) ?_
    ·exact oB wlp
    ·exact oB wlp
    ·exact oB wa
    ·exact oB wa
    ·exact oB wa
    obtain rfl:=Option.some.inj hr
    exact zAZ (zAw (zAe (l':=[(8,.osl 0),(9,.i s10),(10,.i 0)]) (Hs:=[(0,.sl 36 Y3 s11)]) (n:=1) (zAA hX [4] 4 rfl rfl wS wO) rfl rfl rfl ⟨rfl,rfl,rfl,trivial⟩))
   ·rintro r rfl
    exact absurd hr (by simp)
theorem g34_runs {p0:ZQ}{p1:Int}{p2:Int}{p3:Int}{r:Int×Int×(ZE)}(hr:g34 p0 p1 p2 p3=some r) : Runs Tryz.prog 34 [.rp [.sl Y4 p0.1,.i p0.2],.i p1,.i p2,.i p3] [] (fun q Hq=>q=[.osl 0,.i r.1,.i r.2.1]∧Hq=[.sl 36 Y3 r.2.2]):=by
 refine zAW Tryz.func34 Tryz.ntmps34 rfl (rs:=[.tmp 8,.tmp 9,.tmp 10]) rfl rfl fun w0 X hX=>?_
 obtain ⟨x2,e3,hr⟩:=zA hr
 refine sq<|rg<|V va<|V va<|V va<|nl<|an<|sq<|rg<|V vm<|V vm<|?_
 refine V (zAV (zDa e3).x ent51 rfl rfl)<|V va<|nl<|an<|sq<|sq<|?_
 refine zAa [2,3,8,9,10,11] [(true,.pd Y4 x2),(true,.bool (Option.isNone x2)),(true,.bool (Option.isNone x2)),(!(Option.isNone x2),.i p2),(!(Option.isNone x2),.bool (decide (p2 < 0))),(true,.bool ((Option.isNone x2)||(decide (p2 < 0)))),(true,.bool ((Option.isNone x2)||(decide (p2 < 0)))),(!((Option.isNone x2)||(decide (p2 < 0))),.i p3),(!((Option.isNone x2)||(decide (p2 < 0))),.bool (decide (p3 < 0))),(true,.bool (((Option.isNone x2)||(decide (p2 < 0)))||(decide (p3 < 0))))] [[],[0],[1],[2],[3,2],[4,2],[5],[6],[7,6],[8,6]] [9] rfl rfl rfl rfl rfl ⟨?_,?_,?_,?_,?_,?_,?_,?_,?_,?_,trivial⟩ (zAD ⟨rfl,trivial⟩) ?_
 ·exact oB wm
 ·exact zAr rfl (fun hg=>zAD ⟨rfl,trivial⟩) (fun hg=>zDW (t:=Y4) (undX 108 rfl) rfl rfl)
 ·exact oB wm
 ·exact oB wm
 ·exact oB wls
 ·exact zBr
 ·exact oB wm
 ·exact oB wm
 ·exact oB wls
 ·exact zBr
 refine an<|?_
 refine cnd (fun hc4 hr=>?_) (fun hc4 hr=>?_)
 ·refine sq<|rg<|V va<|V va<|V va<|?_
  obtain rfl:=Option.some.inj hr
  exact nl<|an<|cr<|zAC (zAe (l':=[(8,.osl 0),(9,.i 0),(10,.i 7)]) (Hs:=[(0,.sl 36 Y3 ([] : ZE))]) (n:=1) (Wk.trans (zAt (t:=8) 36 Y3 rfl) (zAA hX [0] 4 rfl rfl wS wO)) rfl rfl rfl ⟨rfl,rfl,rfl,trivial⟩)
 ·obtain ⟨x5,e6,hr⟩:=zA hr
  obtain ⟨x7,e8,hr⟩:=zA hr
  obtain ⟨x9,e10,hr⟩:=zA hr
  refine sk<|an<|sq<|rg<|V vm<|V vm<|?_
  refine V (zCJ (t:=Y4) (y:=x5) rfl e6)<|V vfr<|V vlr<|V vnl<|?_
  refine V (av_min rfl rfl rfl)<|V va<|nl<|an<|sq<|rg<|V vm<|V vm<|V vm<|?_
  refine V (zCJ (t:=Y4) (y:=x7) rfl e8)<|V vfr<|V vlr<|V vnl<|V vm<|V vsu<|?_
  refine V (av_min rfl rfl rfl)<|V vad<|V va<|nl<|an<|sq<|?_
  obtain ⟨h11,hr⟩:=zAN hr
  obtain ⟨h12,hr⟩:=zAN hr
  obtain ⟨x13,e14,hr⟩:=zA hr
  let c15 : Nat×AV:=(2,.i (min p2 (List.length x5.2 : Int)))
  let c16 : Nat×AV:=(8,.nils)
  let c17 : Nat×AV:=(9,.i 0)
  let c18 : Nat×AV:=(10,.i 0)
  let c19 : Nat×AV:=(11,.pd Y4 x2)
  let c20 : Nat×AV:=(12,.i (w64 ((min p2 (List.length x5.2 : Int))+(min p3 (w64 ((List.length x7.2 : Int) - (min p2 (List.length x5.2 : Int))))))))
  let c21 : Nat×AV:=(44,.pd Y4 x2)
  let c22 : Nat×AV:=(48,.i (min p2 (List.length x5.2 : Int)))
  let c23 : Nat×AV:=(49,.i (w64 ((min p2 (List.length x5.2 : Int))+(min p3 (w64 ((List.length x7.2 : Int) - (min p2 (List.length x5.2 : Int))))))))
  let c24 : Nat×AV:=(52,.pd Y4 x2)
  let c25 : Nat×AV:=(45,.rp [.i x9.1,.sl Y3 x9.2])
  let c26 : Nat×AV:=(53,.rp [.i x13.1,.sl Y3 x13.2])
  let c27 : Nat×AV:=(46,.rp [.sl Y3 x9.2])
  let c28 : Nat×AV:=(54,.rp [.sl Y3 x13.2])
  let c29 : Nat×AV:=(47,.sl Y3 x9.2)
  let c30 : Nat×AV:=(55,.sl Y3 x13.2)
  let c31 : Nat×AV:=(56,.i (List.length x13.2 : Int))
  let c32 : Nat×AV:=(50,.sl Y3 ((x9.2.take (Int.toNat (w64 ((min p2 (List.length x5.2 : Int))+(min p3 (w64 ((List.length x7.2 : Int) - (min p2 (List.length x5.2 : Int))))))))).drop (Int.toNat (min p2 (List.length x5.2 : Int)))))
  let c33 : Nat×AV:=(51,.osl 0)
  let c34 : Nat×AO:=(0,.sl 36 Y3 ((x9.2.take (Int.toNat (w64 ((min p2 (List.length x5.2 : Int))+(min p3 (w64 ((List.length x7.2 : Int) - (min p2 (List.length x5.2 : Int))))))))).drop (Int.toNat (min p2 (List.length x5.2 : Int)))))
  let c35 : Nat×AV:=(8,.osl 0)
  let c36 : Nat×AV:=(9,.i (List.length x13.2 : Int))
  refine awc_drawS mixed (([dF,dF,dF,dF,dF,dF,dF,dF,dF,dF,dF,dF,dF,dF,dF,dF],⟨[c15,c16,c17,c18,c19,c20],[],0⟩,[0,4,5,8])::([dT,dF,dF,dF,dF,dF,dF,dF,dF,dF,dF,dF,dF,dF,dF,dF],⟨[c15,c16,c17,c18,c19,c20,c21],[],0⟩,[1,4,5,8])::([dF,dF,dF,dF,dT,dF,dF,dF,dF,dF,dF,dF,dF,dF,dF,dF],⟨[c15,c16,c17,c18,c19,c20,c22],[],0⟩,[0,5,8])::([dF,dF,dF,dF,dF,dT,dF,dF,dF,dF,dF,dF,dF,dF,dF,dF],⟨[c15,c16,c17,c18,c19,c20,c23],[],0⟩,[0,4,8])::([dF,dF,dF,dF,dF,dF,dF,dF,dT,dF,dF,dF,dF,dF,dF,dF],⟨[c15,c16,c17,c18,c19,c20,c24],[],0⟩,[0,4,5,9])::([dT,dT,dF,dF,dF,dF,dF,dF,dF,dF,dF,dF,dF,dF,dF,dF],⟨[c15,c16,c17,c18,c19,c20,c21,c25],[],0⟩,[2,4,5,8])::([dT,dF,dF,dF,dT,dF,dF,dF,dF,dF,dF,dF,dF,dF,dF,dF],⟨[c15,c16,c17,c18,c19,c20,c21,c22],[],0⟩,[1,5,8])::([dT,dF,dF,dF,dF,dT,dF,dF,dF,dF,dF,dF,dF,dF,dF,dF],⟨[c15,c16,c17,c18,c19,c20,c21,c23],[],0⟩,[1,4,8])::([dT,dF,dF,dF,dF,dF,dF,dF,dT,dF,dF,dF,dF,dF,dF,dF],⟨[c15,c16,c17,c18,c19,c20,c21,c24],[],0⟩,[1,4,5,9])::([dF,dF,dF,dF,dT,dT,dF,dF,dF,dF,dF,dF,dF,dF,dF,dF],⟨[c15,c16,c17,c18,c19,c20,c22,c23],[],0⟩,[0,8])::([dF,dF,dF,dF,dT,dF,dF,dF,dT,dF,dF,dF,dF,dF,dF,dF],⟨[c15,c16,c17,c18,c19,c20,c22,c24],[],0⟩,[0,5,9])::([dF,dF,dF,dF,dF,dT,dF,dF,dT,dF,dF,dF,dF,dF,dF,dF],⟨[c15,c16,c17,c18,c19,c20,c23,c24],[],0⟩,[0,4,9])::([dF,dF,dF,dF,dF,dF,dF,dF,dT,dT,dF,dF,dF,dF,dF,dF],⟨[c15,c16,c17,c18,c19,c20,c24,c26],[],0⟩,[0,4,5,10])::([dT,dT,dT,dF,dF,dF,dF,dF,dF,dF,dF,dF,dF,dF,dF,dF],⟨[c15,c16,c17,c18,c19,c20,c21,c25,c27],[],0⟩,[3,4,5,8])::([dT,dT,dF,dF,dT,dF,dF,dF,dF,dF,dF,dF,dF,dF,dF,dF],⟨[c15,c16,c17,c18,c19,c20,c21,c25,c22],[],0⟩,[2,5,8])::([dT,dT,dF,dF,dF,dT,dF,dF,dF,dF,dF,dF,dF,dF,dF,dF],⟨[c15,c16,c17,c18,c19,c20,c21,c25,c23],[],0⟩,[2,4,8])::([dT,dT,dF,dF,dF,dF,dF,dF,dT,dF,dF,dF,dF,dF,dF,dF],⟨[c15,c16,c17,c18,c19,c20,c21,c25,c24],[],0⟩,[2,4,5,9])::([dT,dF,dF,dF,dT,dT,dF,dF,dF,dF,dF,dF,dF,dF,dF,dF],⟨[c15,c16,c17,c18,c19,c20,c21,c22,c23],[],0⟩,[1,8])::([dT,dF,dF,dF,dT,dF,dF,dF,dT,dF,dF,dF,dF,dF,dF,dF],⟨[c15,c16,c17,c18,c19,c20,c21,c22,c24],[],0⟩,[1,5,9])::([dT,dF,dF,dF,dF,dT,dF,dF,dT,dF,dF,dF,dF,dF,dF,dF],⟨[c15,c16,c17,c18,c19,c20,c21,c23,c24],[],0⟩,[1,4,9])::([dT,dF,dF,dF,dF,dF,dF,dF,dT,dT,dF,dF,dF,dF,dF,dF],⟨[c15,c16,c17,c18,c19,c20,c21,c24,c26],[],0⟩,[1,4,5,10])::([dF,dF,dF,dF,dT,dT,dF,dF,dT,dF,dF,dF,dF,dF,dF,dF],⟨[c15,c16,c17,c18,c19,c20,c22,c23,c24],[],0⟩,[0,9])::([dF,dF,dF,dF,dT,dF,dF,dF,dT,dT,dF,dF,dF,dF,dF,dF],⟨[c15,c16,c17,c18,c19,c20,c22,c24,c26],[],0⟩,[0,5,10])::([dF,dF,dF,dF,dF,dT,dF,dF,dT,dT,dF,dF,dF,dF,dF,dF],⟨[c15,c16,c17,c18,c19,c20,c23,c24,c26],[],0⟩,[0,4,10])::([dF,dF,dF,dF,dF,dF,dF,dF,dT,dT,dT,dF,dF,dF,dF,dF],⟨[c15,c16,c17,c18,c19,c20,c24,c26,c28],[],0⟩,[0,4,5,11])::([dT,dT,dT,dT,dF,dF,dF,dF,dF,dF,dF,dF,dF,dF,dF,dF],⟨[c15,c16,c17,c18,c19,c20,c21,c25,c27,c29],[],0⟩,[4,5,8])::([dT,dT,dT,dF,dT,dF,dF,dF,dF,dF,dF,dF,dF,dF,dF,dF],⟨[c15,c16,c17,c18,c19,c20,c21,c25,c27,c22],[],0⟩,[3,5,8])::([dT,dT,dT,dF,dF,dT,dF,dF,dF,dF,dF,dF,dF,dF,dF,dF],⟨[c15,c16,c17,c18,c19,c20,c21,c25,c27,c23],[],0⟩,[3,4,8])::([dT,dT,dT,dF,dF,dF,dF,dF,dT,dF,dF,dF,dF,dF,dF,dF],⟨[c15,c16,c17,c18,c19,c20,c21,c25,c27,c24],[],0⟩,[3,4,5,9])::([dT,dT,dF,dF,dT,dT,dF,dF,dF,dF,dF,dF,dF,dF,dF,dF],⟨[c15,c16,c17,c18,c19,c20,c21,c25,c22,c23],[],0⟩,[2,8])::([dT,dT,dF,dF,dT,dF,dF,dF,dT,dF,dF,dF,dF,dF,dF,dF],⟨[c15,c16,c17,c18,c19,c20,c21,c25,c22,c24],[],0⟩,[2,5,9])::([dT,dT,dF,dF,dF,dT,dF,dF,dT,dF,dF,dF,dF,dF,dF,dF],⟨[c15,c16,c17,c18,c19,c20,c21,c25,c23,c24],[],0⟩,[2,4,9])::([dT,dT,dF,dF,dF,dF,dF,dF,dT,dT,dF,dF,dF,dF,dF,dF],⟨[c15,c16,c17,c18,c19,c20,c21,c25,c24,c26],[],0⟩,[2,4,5,10])::([dT,dF,dF,dF,dT,dT,dF,dF,dT,dF,dF,dF,dF,dF,dF,dF],⟨[c15,c16,c17,c18,c19,c20,c21,c22,c23,c24],[],0⟩,[1,9])::([dT,dF,dF,dF,dT,dF,dF,dF,dT,dT,dF,dF,dF,dF,dF,dF],⟨[c15,c16,c17,c18,c19,c20,c21,c22,c24,c26],[],0⟩,[1,5,10])::([dT,dF,dF,dF,dF,dT,dF,dF,dT,dT,dF,dF,dF,dF,dF,dF],⟨[c15,c16,c17,c18,c19,c20,c21,c23,c24,c26],[],0⟩,[1,4,10])::([dT,dF,dF,dF,dF,dF,dF,dF,dT,dT,dT,dF,dF,dF,dF,dF],⟨[c15,c16,c17,c18,c19,c20,c21,c24,c26,c28],[],0⟩,[1,4,5,11])::([dF,dF,dF,dF,dT,dT,dF,dF,dT,dT,dF,dF,dF,dF,dF,dF],⟨[c15,c16,c17,c18,c19,c20,c22,c23,c24,c26],[],0⟩,[0,10])::([dF,dF,dF,dF,dT,dF,dF,dF,dT,dT,dT,dF,dF,dF,dF,dF],⟨[c15,c16,c17,c18,c19,c20,c22,c24,c26,c28],[],0⟩,[0,5,11])::([dF,dF,dF,dF,dF,dT,dF,dF,dT,dT,dT,dF,dF,dF,dF,dF],⟨[c15,c16,c17,c18,c19,c20,c23,c24,c26,c28],[],0⟩,[0,4,11])::([dF,dF,dF,dF,dF,dF,dF,dF,dT,dT,dT,dT,dF,dF,dF,dF],⟨[c15,c16,c17,c18,c19,c20,c24,c26,c28,c30],[],0⟩,[0,4,5,12])::([dT,dT,dT,dT,dT,dF,dF,dF,dF,dF,dF,dF,dF,dF,dF,dF],⟨[c15,c16,c17,c18,c19,c20,c21,c25,c27,c29,c22],[],0⟩,[5,8])::([dT,dT,dT,dT,dF,dT,dF,dF,dF,dF,dF,dF,dF,dF,dF,dF],⟨[c15,c16,c17,c18,c19,c20,c21,c25,c27,c29,c23],[],0⟩,[4,8])::([dT,dT,dT,dT,dF,dF,dF,dF,dT,dF,dF,dF,dF,dF,dF,dF],⟨[c15,c16,c17,c18,c19,c20,c21,c25,c27,c29,c24],[],0⟩,[4,5,9])::([dT,dT,dT,dF,dT,dT,dF,dF,dF,dF,dF,dF,dF,dF,dF,dF],⟨[c15,c16,c17,c18,c19,c20,c21,c25,c27,c22,c23],[],0⟩,[3,8])::([dT,dT,dT,dF,dT,dF,dF,dF,dT,dF,dF,dF,dF,dF,dF,dF],⟨[c15,c16,c17,c18,c19,c20,c21,c25,c27,c22,c24],[],0⟩,[3,5,9])::([dT,dT,dT,dF,dF,dT,dF,dF,dT,dF,dF,dF,dF,dF,dF,dF],⟨[c15,c16,c17,c18,c19,c20,c21,c25,c27,c23,c24],[],0⟩,[3,4,9])::([dT,dT,dT,dF,dF,dF,dF,dF,dT,dT,dF,dF,dF,dF,dF,dF],⟨[c15,c16,c17,c18,c19,c20,c21,c25,c27,c24,c26],[],0⟩,[3,4,5,10])::([dT,dT,dF,dF,dT,dT,dF,dF,dT,dF,dF,dF,dF,dF,dF,dF],⟨[c15,c16,c17,c18,c19,c20,c21,c25,c22,c23,c24],[],0⟩,[2,9])::([dT,dT,dF,dF,dT,dF,dF,dF,dT,dT,dF,dF,dF,dF,dF,dF],⟨[c15,c16,c17,c18,c19,c20,c21,c25,c22,c24,c26],[],0⟩,[2,5,10])::([dT,dT,dF,dF,dF,dT,dF,dF,dT,dT,dF,dF,dF,dF,dF,dF],⟨[c15,c16,c17,c18,c19,c20,c21,c25,c23,c24,c26],[],0⟩,[2,4,10])::([dT,dT,dF,dF,dF,dF,dF,dF,dT,dT,dT,dF,dF,dF,dF,dF],⟨[c15,c16,c17,c18,c19,c20,c21,c25,c24,c26,c28],[],0⟩,[2,4,5,11])::([dT,dF,dF,dF,dT,dT,dF,dF,dT,dT,dF,dF,dF,dF,dF,dF],⟨[c15,c16,c17,c18,c19,c20,c21,c22,c23,c24,c26],[],0⟩,[1,10])::([dT,dF,dF,dF,dT,dF,dF,dF,dT,dT,dT,dF,dF,dF,dF,dF],⟨[c15,c16,c17,c18,c19,c20,c21,c22,c24,c26,c28],[],0⟩,[1,5,11])::([dT,dF,dF,dF,dF,dT,dF,dF,dT,dT,dT,dF,dF,dF,dF,dF],⟨[c15,c16,c17,c18,c19,c20,c21,c23,c24,c26,c28],[],0⟩,[1,4,11])::([dT,dF,dF,dF,dF,dF,dF,dF,dT,dT,dT,dT,dF,dF,dF,dF],⟨[c15,c16,c17,c18,c19,c20,c21,c24,c26,c28,c30],[],0⟩,[1,4,5,12])::([dF,dF,dF,dF,dT,dT,dF,dF,dT,dT,dT,dF,dF,dF,dF,dF],⟨[c15,c16,c17,c18,c19,c20,c22,c23,c24,c26,c28],[],0⟩,[0,11])::([dF,dF,dF,dF,dT,dF,dF,dF,dT,dT,dT,dT,dF,dF,dF,dF],⟨[c15,c16,c17,c18,c19,c20,c22,c24,c26,c28,c30],[],0⟩,[0,5,12])::([dF,dF,dF,dF,dF,dT,dF,dF,dT,dT,dT,dT,dF,dF,dF,dF],⟨[c15,c16,c17,c18,c19,c20,c23,c24,c26,c28,c30],[],0⟩,[0,4,12])::([dF,dF,dF,dF,dF,dF,dF,dF,dT,dT,dT,dT,dT,dF,dF,dF],⟨[c15,c16,c17,c18,c19,c20,c24,c26,c28,c30,c31],[],0⟩,[0,4,5])::([dT,dT,dT,dT,dT,dT,dF,dF,dF,dF,dF,dF,dF,dF,dF,dF],⟨[c15,c16,c17,c18,c19,c20,c21,c25,c27,c29,c22,c23],[],0⟩,[6,8])::([dT,dT,dT,dT,dT,dF,dF,dF,dT,dF,dF,dF,dF,dF,dF,dF],⟨[c15,c16,c17,c18,c19,c20,c21,c25,c27,c29,c22,c24],[],0⟩,[5,9])::([dT,dT,dT,dT,dF,dT,dF,dF,dT,dF,dF,dF,dF,dF,dF,dF],⟨[c15,c16,c17,c18,c19,c20,c21,c25,c27,c29,c23,c24],[],0⟩,[4,9])::([dT,dT,dT,dT,dF,dF,dF,dF,dT,dT,dF,dF,dF,dF,dF,dF],⟨[c15,c16,c17,c18,c19,c20,c21,c25,c27,c29,c24,c26],[],0⟩,[4,5,10])::([dT,dT,dT,dF,dT,dT,dF,dF,dT,dF,dF,dF,dF,dF,dF,dF],⟨[c15,c16,c17,c18,c19,c20,c21,c25,c27,c22,c23,c24],[],0⟩,[3,9])::([dT,dT,dT,dF,dT,dF,dF,dF,dT,dT,dF,dF,dF,dF,dF,dF],⟨[c15,c16,c17,c18,c19,c20,c21,c25,c27,c22,c24,c26],[],0⟩,[3,5,10])::([dT,dT,dT,dF,dF,dT,dF,dF,dT,dT,dF,dF,dF,dF,dF,dF],⟨[c15,c16,c17,c18,c19,c20,c21,c25,c27,c23,c24,c26],[],0⟩,[3,4,10])::([dT,dT,dT,dF,dF,dF,dF,dF,dT,dT,dT,dF,dF,dF,dF,dF],⟨[c15,c16,c17,c18,c19,c20,c21,c25,c27,c24,c26,c28],[],0⟩,[3,4,5,11])::([dT,dT,dF,dF,dT,dT,dF,dF,dT,dT,dF,dF,dF,dF,dF,dF],⟨[c15,c16,c17,c18,c19,c20,c21,c25,c22,c23,c24,c26],[],0⟩,[2,10])::([dT,dT,dF,dF,dT,dF,dF,dF,dT,dT,dT,dF,dF,dF,dF,dF],⟨[c15,c16,c17,c18,c19,c20,c21,c25,c22,c24,c26,c28],[],0⟩,[2,5,11])::([dT,dT,dF,dF,dF,dT,dF,dF,dT,dT,dT,dF,dF,dF,dF,dF],⟨[c15,c16,c17,c18,c19,c20,c21,c25,c23,c24,c26,c28],[],0⟩,[2,4,11])::([dT,dT,dF,dF,dF,dF,dF,dF,dT,dT,dT,dT,dF,dF,dF,dF],⟨[c15,c16,c17,c18,c19,c20,c21,c25,c24,c26,c28,c30],[],0⟩,[2,4,5,12])::([dT,dF,dF,dF,dT,dT,dF,dF,dT,dT,dT,dF,dF,dF,dF,dF],⟨[c15,c16,c17,c18,c19,c20,c21,c22,c23,c24,c26,c28],[],0⟩,[1,11])::([dT,dF,dF,dF,dT,dF,dF,dF,dT,dT,dT,dT,dF,dF,dF,dF],⟨[c15,c16,c17,c18,c19,c20,c21,c22,c24,c26,c28,c30],[],0⟩,[1,5,12])::([dT,dF,dF,dF,dF,dT,dF,dF,dT,dT,dT,dT,dF,dF,dF,dF],⟨[c15,c16,c17,c18,c19,c20,c21,c23,c24,c26,c28,c30],[],0⟩,[1,4,12])::([dT,dF,dF,dF,dF,dF,dF,dF,dT,dT,dT,dT,dT,dF,dF,dF],⟨[c15,c16,c17,c18,c19,c20,c21,c24,c26,c28,c30,c31],[],0⟩,[1,4,5])::([dF,dF,dF,dF,dT,dT,dF,dF,dT,dT,dT,dT,dF,dF,dF,dF],⟨[c15,c16,c17,c18,c19,c20,c22,c23,c24,c26,c28,c30],[],0⟩,[0,12])::([dF,dF,dF,dF,dT,dF,dF,dF,dT,dT,dT,dT,dT,dF,dF,dF],⟨[c15,c16,c17,c18,c19,c20,c22,c24,c26,c28,c30,c31],[],0⟩,[0,5])::([dF,dF,dF,dF,dF,dT,dF,dF,dT,dT,dT,dT,dT,dF,dF,dF],⟨[c15,c16,c17,c18,c19,c20,c23,c24,c26,c28,c30,c31],[],0⟩,[0,4])::([dT,dT,dT,dT,dT,dT,dT,dF,dF,dF,dF,dF,dF,dF,dF,dF],⟨[c15,c16,c17,c18,c19,c20,c21,c25,c27,c29,c22,c23,c32],[],0⟩,[7,8])::([dT,dT,dT,dT,dT,dT,dF,dF,dT,dF,dF,dF,dF,dF,dF,dF],⟨[c15,c16,c17,c18,c19,c20,c21,c25,c27,c29,c22,c23,c24],[],0⟩,[6,9])::([dT,dT,dT,dT,dT,dF,dF,dF,dT,dT,dF,dF,dF,dF,dF,dF],⟨[c15,c16,c17,c18,c19,c20,c21,c25,c27,c29,c22,c24,c26],[],0⟩,[5,10])::([dT,dT,dT,dT,dF,dT,dF,dF,dT,dT,dF,dF,dF,dF,dF,dF],⟨[c15,c16,c17,c18,c19,c20,c21,c25,c27,c29,c23,c24,c26],[],0⟩,[4,10])::([dT,dT,dT,dT,dF,dF,dF,dF,dT,dT,dT,dF,dF,dF,dF,dF],⟨[c15,c16,c17,c18,c19,c20,c21,c25,c27,c29,c24,c26,c28],[],0⟩,[4,5,11])::([dT,dT,dT,dF,dT,dT,dF,dF,dT,dT,dF,dF,dF,dF,dF,dF],⟨[c15,c16,c17,c18,c19,c20,c21,c25,c27,c22,c23,c24,c26],[],0⟩,[3,10])::([dT,dT,dT,dF,dT,dF,dF,dF,dT,dT,dT,dF,dF,dF,dF,dF],⟨[c15,c16,c17,c18,c19,c20,c21,c25,c27,c22,c24,c26,c28],[],0⟩,[3,5,11])::([dT,dT,dT,dF,dF,dT,dF,dF,dT,dT,dT,dF,dF,dF,dF,dF],⟨[c15,c16,c17,c18,c19,c20,c21,c25,c27,c23,c24,c26,c28],[],0⟩,[3,4,11])::([dT,dT,dT,dF,dF,dF,dF,dF,dT,dT,dT,dT,dF,dF,dF,dF],⟨[c15,c16,c17,c18,c19,c20,c21,c25,c27,c24,c26,c28,c30],[],0⟩,[3,4,5,12])::([dT,dT,dF,dF,dT,dT,dF,dF,dT,dT,dT,dF,dF,dF,dF,dF],⟨[c15,c16,c17,c18,c19,c20,c21,c25,c22,c23,c24,c26,c28],[],0⟩,[2,11])::([dT,dT,dF,dF,dT,dF,dF,dF,dT,dT,dT,dT,dF,dF,dF,dF],⟨[c15,c16,c17,c18,c19,c20,c21,c25,c22,c24,c26,c28,c30],[],0⟩,[2,5,12])::([dT,dT,dF,dF,dF,dT,dF,dF,dT,dT,dT,dT,dF,dF,dF,dF],⟨[c15,c16,c17,c18,c19,c20,c21,c25,c23,c24,c26,c28,c30],[],0⟩,[2,4,12])::([dT,dT,dF,dF,dF,dF,dF,dF,dT,dT,dT,dT,dT,dF,dF,dF],⟨[c15,c16,c17,c18,c19,c20,c21,c25,c24,c26,c28,c30,c31],[],0⟩,[2,4,5])::([dT,dF,dF,dF,dT,dT,dF,dF,dT,dT,dT,dT,dF,dF,dF,dF],⟨[c15,c16,c17,c18,c19,c20,c21,c22,c23,c24,c26,c28,c30],[],0⟩,[1,12])::([dT,dF,dF,dF,dT,dF,dF,dF,dT,dT,dT,dT,dT,dF,dF,dF],⟨[c15,c16,c17,c18,c19,c20,c21,c22,c24,c26,c28,c30,c31],[],0⟩,[1,5])::([dT,dF,dF,dF,dF,dT,dF,dF,dT,dT,dT,dT,dT,dF,dF,dF],⟨[c15,c16,c17,c18,c19,c20,c21,c23,c24,c26,c28,c30,c31],[],0⟩,[1,4])::([dF,dF,dF,dF,dT,dT,dF,dF,dT,dT,dT,dT,dT,dF,dF,dF],⟨[c15,c16,c17,c18,c19,c20,c22,c23,c24,c26,c28,c30,c31],[],0⟩,[0])::([dT,dT,dT,dT,dT,dT,dT,dT,dF,dF,dF,dF,dF,dF,dF,dF],⟨[c15,c16,c17,c18,c19,c20,c21,c25,c27,c29,c22,c23,c32,c33],[c34],1⟩,[8,13])::([dT,dT,dT,dT,dT,dT,dT,dF,dT,dF,dF,dF,dF,dF,dF,dF],⟨[c15,c16,c17,c18,c19,c20,c21,c25,c27,c29,c22,c23,c32,c24],[],0⟩,[7,9])::([dT,dT,dT,dT,dT,dT,dF,dF,dT,dT,dF,dF,dF,dF,dF,dF],⟨[c15,c16,c17,c18,c19,c20,c21,c25,c27,c29,c22,c23,c24,c26],[],0⟩,[6,10])::([dT,dT,dT,dT,dT,dF,dF,dF,dT,dT,dT,dF,dF,dF,dF,dF],⟨[c15,c16,c17,c18,c19,c20,c21,c25,c27,c29,c22,c24,c26,c28],[],0⟩,[5,11])::([dT,dT,dT,dT,dF,dT,dF,dF,dT,dT,dT,dF,dF,dF,dF,dF],⟨[c15,c16,c17,c18,c19,c20,c21,c25,c27,c29,c23,c24,c26,c28],[],0⟩,[4,11])::([dT,dT,dT,dT,dF,dF,dF,dF,dT,dT,dT,dT,dF,dF,dF,dF],⟨[c15,c16,c17,c18,c19,c20,c21,c25,c27,c29,c24,c26,c28,c30],[],0⟩,[4,5,12])::([dT,dT,dT,dF,dT,dT,dF,dF,dT,dT,dT,dF,dF,dF,dF,dF],⟨[c15,c16,c17,c18,c19,c20,c21,c25,c27,c22,c23,c24,c26,c28],[],0⟩,[3,11])::([dT,dT,dT,dF,dT,dF,dF,dF,dT,dT,dT,dT,dF,dF,dF,dF],⟨[c15,c16,c17,c18,c19,c20,c21,c25,c27,c22,c24,c26,c28,c30],[],0⟩,[3,5,12])::([dT,dT,dT,dF,dF,dT,dF,dF,dT,dT,dT,dT,dF,dF,dF,dF],⟨[c15,c16,c17,c18,c19,c20,c21,c25,c27,c23,c24,c26,c28,c30],[],0⟩,[3,4,12])::([dT,dT,dT,dF,dF,dF,dF,dF,dT,dT,dT,dT,dT,dF,dF,dF],⟨[c15,c16,c17,c18,c19,c20,c21,c25,c27,c24,c26,c28,c30,c31],[],0⟩,[3,4,5])::([dT,dT,dF,dF,dT,dT,dF,dF,dT,dT,dT,dT,dF,dF,dF,dF],⟨[c15,c16,c17,c18,c19,c20,c21,c25,c22,c23,c24,c26,c28,c30],[],0⟩,[2,12])::([dT,dT,dF,dF,dT,dF,dF,dF,dT,dT,dT,dT,dT,dF,dF,dF],⟨[c15,c16,c17,c18,c19,c20,c21,c25,c22,c24,c26,c28,c30,c31],[],0⟩,[2,5])::([dT,dT,dF,dF,dF,dT,dF,dF,dT,dT,dT,dT,dT,dF,dF,dF],⟨[c15,c16,c17,c18,c19,c20,c21,c25,c23,c24,c26,c28,c30,c31],[],0⟩,[2,4])::([dT,dF,dF,dF,dT,dT,dF,dF,dT,dT,dT,dT,dT,dF,dF,dF],⟨[c15,c16,c17,c18,c19,c20,c21,c22,c23,c24,c26,c28,c30,c31],[],0⟩,[1])::([dT,dT,dT,dT,dT,dT,dT,dT,dT,dF,dF,dF,dF,dF,dF,dF],⟨[c15,c16,c17,c18,c19,c20,c21,c25,c27,c29,c22,c23,c32,c33,c24],[c34],1⟩,[9,13])::([dT,dT,dT,dT,dT,dT,dT,dT,dF,dF,dF,dF,dF,dT,dF,dF],⟨[c15,c35,c17,c18,c19,c20,c21,c25,c27,c29,c22,c23,c32,c33],[c34],1⟩,[8])::([dT,dT,dT,dT,dT,dT,dT,dF,dT,dT,dF,dF,dF,dF,dF,dF],⟨[c15,c16,c17,c18,c19,c20,c21,c25,c27,c29,c22,c23,c32,c24,c26],[],0⟩,[7,10])::([dT,dT,dT,dT,dT,dT,dF,dF,dT,dT,dT,dF,dF,dF,dF,dF],⟨[c15,c16,c17,c18,c19,c20,c21,c25,c27,c29,c22,c23,c24,c26,c28],[],0⟩,[6,11])::([dT,dT,dT,dT,dT,dF,dF,dF,dT,dT,dT,dT,dF,dF,dF,dF],⟨[c15,c16,c17,c18,c19,c20,c21,c25,c27,c29,c22,c24,c26,c28,c30],[],0⟩,[5,12])::([dT,dT,dT,dT,dF,dT,dF,dF,dT,dT,dT,dT,dF,dF,dF,dF],⟨[c15,c16,c17,c18,c19,c20,c21,c25,c27,c29,c23,c24,c26,c28,c30],[],0⟩,[4,12])::([dT,dT,dT,dT,dF,dF,dF,dF,dT,dT,dT,dT,dT,dF,dF,dF],⟨[c15,c16,c17,c18,c19,c20,c21,c25,c27,c29,c24,c26,c28,c30,c31],[],0⟩,[4,5])::([dT,dT,dT,dF,dT,dT,dF,dF,dT,dT,dT,dT,dF,dF,dF,dF],⟨[c15,c16,c17,c18,c19,c20,c21,c25,c27,c22,c23,c24,c26,c28,c30],[],0⟩,[3,12])::([dT,dT,dT,dF,dT,dF,dF,dF,dT,dT,dT,dT,dT,dF,dF,dF],⟨[c15,c16,c17,c18,c19,c20,c21,c25,c27,c22,c24,c26,c28,c30,c31],[],0⟩,[3,5])::([dT,dT,dT,dF,dF,dT,dF,dF,dT,dT,dT,dT,dT,dF,dF,dF],⟨[c15,c16,c17,c18,c19,c20,c21,c25,c27,c23,c24,c26,c28,c30,c31],[],0⟩,[3,4])::([dT,dT,dF,dF,dT,dT,dF,dF,dT,dT,dT,dT,dT,dF,dF,dF],⟨[c15,c16,c17,c18,c19,c20,c21,c25,c22,c23,c24,c26,c28,c30,c31],[],0⟩,[2])::([dT,dT,dT,dT,dT,dT,dT,dT,dT,dT,dF,dF,dF,dF,dF,dF],⟨[c15,c16,c17,c18,c19,c20,c21,c25,c27,c29,c22,c23,c32,c33,c24,c26],[c34],1⟩,[10,13])::([dT,dT,dT,dT,dT,dT,dT,dT,dT,dF,dF,dF,dF,dT,dF,dF],⟨[c15,c35,c17,c18,c19,c20,c21,c25,c27,c29,c22,c23,c32,c33,c24],[c34],1⟩,[9])::([dT,dT,dT,dT,dT,dT,dT,dF,dT,dT,dT,dF,dF,dF,dF,dF],⟨[c15,c16,c17,c18,c19,c20,c21,c25,c27,c29,c22,c23,c32,c24,c26,c28],[],0⟩,[7,11])::([dT,dT,dT,dT,dT,dT,dF,dF,dT,dT,dT,dT,dF,dF,dF,dF],⟨[c15,c16,c17,c18,c19,c20,c21,c25,c27,c29,c22,c23,c24,c26,c28,c30],[],0⟩,[6,12])::([dT,dT,dT,dT,dT,dF,dF,dF,dT,dT,dT,dT,dT,dF,dF,dF],⟨[c15,c16,c17,c18,c19,c20,c21,c25,c27,c29,c22,c24,c26,c28,c30,c31],[],0⟩,[5])::([dT,dT,dT,dT,dF,dT,dF,dF,dT,dT,dT,dT,dT,dF,dF,dF],⟨[c15,c16,c17,c18,c19,c20,c21,c25,c27,c29,c23,c24,c26,c28,c30,c31],[],0⟩,[4])::([dT,dT,dT,dF,dT,dT,dF,dF,dT,dT,dT,dT,dT,dF,dF,dF],⟨[c15,c16,c17,c18,c19,c20,c21,c25,c27,c22,c23,c24,c26,c28,c30,c31],[],0⟩,[3])::([dT,dT,dT,dT,dT,dT,dT,dT,dT,dT,dT,dF,dF,dF,dF,dF],⟨[c15,c16,c17,c18,c19,c20,c21,c25,c27,c29,c22,c23,c32,c33,c24,c26,c28],[c34],1⟩,[11,13])::([dT,dT,dT,dT,dT,dT,dT,dT,dT,dT,dF,dF,dF,dT,dF,dF],⟨[c15,c35,c17,c18,c19,c20,c21,c25,c27,c29,c22,c23,c32,c33,c24,c26],[c34],1⟩,[10])::([dT,dT,dT,dT,dT,dT,dT,dF,dT,dT,dT,dT,dF,dF,dF,dF],⟨[c15,c16,c17,c18,c19,c20,c21,c25,c27,c29,c22,c23,c32,c24,c26,c28,c30],[],0⟩,[7,12])::([dT,dT,dT,dT,dT,dT,dF,dF,dT,dT,dT,dT,dT,dF,dF,dF],⟨[c15,c16,c17,c18,c19,c20,c21,c25,c27,c29,c22,c23,c24,c26,c28,c30,c31],[],0⟩,[6])::([dT,dT,dT,dT,dT,dT,dT,dT,dT,dT,dT,dT,dF,dF,dF,dF],⟨[c15,c16,c17,c18,c19,c20,c21,c25,c27,c29,c22,c23,c32,c33,c24,c26,c28,c30],[c34],1⟩,[12,13])::([dT,dT,dT,dT,dT,dT,dT,dT,dT,dT,dT,dF,dF,dT,dF,dF],⟨[c15,c35,c17,c18,c19,c20,c21,c25,c27,c29,c22,c23,c32,c33,c24,c26,c28],[c34],1⟩,[11])::([dT,dT,dT,dT,dT,dT,dT,dF,dT,dT,dT,dT,dT,dF,dF,dF],⟨[c15,c16,c17,c18,c19,c20,c21,c25,c27,c29,c22,c23,c32,c24,c26,c28,c30,c31],[],0⟩,[7])::([dT,dT,dT,dT,dT,dT,dT,dT,dT,dT,dT,dT,dT,dF,dF,dF],⟨[c15,c16,c17,c18,c19,c20,c21,c25,c27,c29,c22,c23,c32,c33,c24,c26,c28,c30,c31],[c34],1⟩,[13])::([dT,dT,dT,dT,dT,dT,dT,dT,dT,dT,dT,dT,dF,dT,dF,dF],⟨[c15,c35,c17,c18,c19,c20,c21,c25,c27,c29,c22,c23,c32,c33,c24,c26,c28,c30],[c34],1⟩,[12])::([dT,dT,dT,dT,dT,dT,dT,dT,dT,dT,dT,dT,dT,dT,dF,dF],⟨[c15,c35,c17,c18,c19,c20,c21,c25,c27,c29,c22,c23,c32,c33,c24,c26,c28,c30,c31],[c34],1⟩,[14])::([dT,dT,dT,dT,dT,dT,dT,dT,dT,dT,dT,dT,dT,dT,dT,dF],⟨[c15,c35,c36,c18,c19,c20,c21,c25,c27,c29,c22,c23,c32,c33,c24,c26,c28,c30,c31],[c34],1⟩,[15])::([dT,dT,dT,dT,dT,dT,dT,dT,dT,dT,dT,dT,dT,dT,dT,dT],⟨[c15,c35,c36,c18,c19,c20,c21,c25,c27,c29,c22,c23,c32,c33,c24,c26,c28,c30,c31],[c34],1⟩,[])::[]) ⟨[c15,c16,c17,c18,c19,c20],[],0⟩ ⟨[c15,c35,c36,c18,c19,c20,c21,c25,c27,c29,c22,c23,c32,c33,c24,c26,c28,c30,c31],[c34],1⟩ (zAA hX [] 4 rfl rfl wS trivial) rfl rfl rfl rfl rfl ?_ ?_
  ·refine zDs (zDr rfl rfl (aV (zAg rfl) hX [])<|zDr rfl rfl (aV (zAg rfl) hX [])<|zDr rfl rfl (aV (zAg rfl) hX [])<|zDr rfl rfl (aV (zAg rfl) hX []) zDt)<|zDs (zDr rfl rfl (aV (zCJ (t:=Y4) (y:=x9) rfl e10) hX [])<|zDr rfl rfl (aV (zAg rfl) hX [])<|zDr rfl rfl (aV (zAg rfl) hX [])<|zDr rfl rfl (aV (zAg rfl) hX []) zDt)<|zDs (zDr rfl rfl (aV (zAg rfl) hX [])<|zDr rfl rfl (aV (zAg rfl) hX [])<|zDr rfl rfl (aV (zAg rfl) hX []) zDt)<|zDs (zDr rfl rfl (aV (zAg rfl) hX [])<|zDr rfl rfl (aV (zAg rfl) hX [])<|zDr rfl rfl (aV (zAg rfl) hX []) zDt)<|zDs (zDr rfl rfl (aV (zAg rfl) hX [])<|zDr rfl rfl (aV (zAg rfl) hX [])<|zDr rfl rfl (aV (zAg rfl) hX [])<|zDr rfl rfl (aV (zCJ (t:=Y4) (y:=x13) rfl e14) hX []) zDt)<|zDs (zDr rfl rfl (aV (zDE (faX 67 1 rfl) rfl rfl) hX [])<|zDr rfl rfl (aV (zAg rfl) hX [])<|zDr rfl rfl (aV (zAg rfl) hX [])<|zDr rfl rfl (aV (zAg rfl) hX []) zDt)<|zDs (zDr rfl rfl (aV (zCJ (t:=Y4) (y:=x9) rfl e10) hX [])<|zDr rfl rfl (aV (zAg rfl) hX [])<|zDr rfl rfl (aV (zAg rfl) hX []) zDt)<|zDs (zDr rfl rfl (aV (zCJ (t:=Y4) (y:=x9) rfl e10) hX [])<|zDr rfl rfl (aV (zAg rfl) hX [])<|zDr rfl rfl (aV (zAg rfl) hX []) zDt)<|zDs (zDr rfl rfl (aV (zCJ (t:=Y4) (y:=x9) rfl e10) hX [])<|zDr rfl rfl (aV (zAg rfl) hX [])<|zDr rfl rfl (aV (zAg rfl) hX [])<|zDr rfl rfl (aV (zCJ (t:=Y4) (y:=x13) rfl e14) hX []) zDt)<|zDs (zDr rfl rfl (aV (zAg rfl) hX [])<|zDr rfl rfl (aV (zAg rfl) hX []) zDt)<|zDs (zDr rfl rfl (aV (zAg rfl) hX [])<|zDr rfl rfl (aV (zAg rfl) hX [])<|zDr rfl rfl (aV (zCJ (t:=Y4) (y:=x13) rfl e14) hX []) zDt)<|zDs (zDr rfl rfl (aV (zAg rfl) hX [])<|zDr rfl rfl (aV (zAg rfl) hX [])<|zDr rfl rfl (aV (zCJ (t:=Y4) (y:=x13) rfl e14) hX []) zDt)<|zDs (zDr rfl rfl (aV (zAg rfl) hX [])<|zDr rfl rfl (aV (zAg rfl) hX [])<|zDr rfl rfl (aV (zAg rfl) hX [])<|zDr rfl rfl (aV (zDE (faX 67 1 rfl) rfl rfl) hX []) zDt)<|zDs (zDr rfl rfl (aV (zDC (tsX 65 rfl) rfl) hX [])<|zDr rfl rfl (aV (zAg rfl) hX [])<|zDr rfl rfl (aV (zAg rfl) hX [])<|zDr rfl rfl (aV (zAg rfl) hX []) zDt)<|zDs (zDr rfl rfl (aV (zDE (faX 67 1 rfl) rfl rfl) hX [])<|zDr rfl rfl (aV (zAg rfl) hX [])<|zDr rfl rfl (aV (zAg rfl) hX []) zDt)<|zDs (zDr rfl rfl (aV (zDE (faX 67 1 rfl) rfl rfl) hX [])<|zDr rfl rfl (aV (zAg rfl) hX [])<|zDr rfl rfl (aV (zAg rfl) hX []) zDt)<|zDs (zDr rfl rfl (aV (zDE (faX 67 1 rfl) rfl rfl) hX [])<|zDr rfl rfl (aV (zAg rfl) hX [])<|zDr rfl rfl (aV (zAg rfl) hX [])<|zDr rfl rfl (aV (zCJ (t:=Y4) (y:=x13) rfl e14) hX []) zDt)<|zDs (zDr rfl rfl (aV (zCJ (t:=Y4) (y:=x9) rfl e10) hX [])<|zDr rfl rfl (aV (zAg rfl) hX []) zDt)<|zDs (zDr rfl rfl (aV (zCJ (t:=Y4) (y:=x9) rfl e10) hX [])<|zDr rfl rfl (aV (zAg rfl) hX [])<|zDr rfl rfl (aV (zCJ (t:=Y4) (y:=x13) rfl e14) hX []) zDt)<|zDs (zDr rfl rfl (aV (zCJ (t:=Y4) (y:=x9) rfl e10) hX [])<|zDr rfl rfl (aV (zAg rfl) hX [])<|zDr rfl rfl (aV (zCJ (t:=Y4) (y:=x13) rfl e14) hX []) zDt)<|zDs (zDr rfl rfl (aV (zCJ (t:=Y4) (y:=x9) rfl e10) hX [])<|zDr rfl rfl (aV (zAg rfl) hX [])<|zDr rfl rfl (aV (zAg rfl) hX [])<|zDr rfl rfl (aV (zDE (faX 67 1 rfl) rfl rfl) hX []) zDt)<|zDs (zDr rfl rfl (aV (zAg rfl) hX [])<|zDr rfl rfl (aV (zCJ (t:=Y4) (y:=x13) rfl e14) hX []) zDt)<|zDs (zDr rfl rfl (aV (zAg rfl) hX [])<|zDr rfl rfl (aV (zAg rfl) hX [])<|zDr rfl rfl (aV (zDE (faX 67 1 rfl) rfl rfl) hX []) zDt)<|zDs (zDr rfl rfl (aV (zAg rfl) hX [])<|zDr rfl rfl (aV (zAg rfl) hX [])<|zDr rfl rfl (aV (zDE (faX 67 1 rfl) rfl rfl) hX []) zDt)<|zDs (zDr rfl rfl (aV (zAg rfl) hX [])<|zDr rfl rfl (aV (zAg rfl) hX [])<|zDr rfl rfl (aV (zAg rfl) hX [])<|zDr rfl rfl (aV (zDC (tsX 65 rfl) rfl) hX []) zDt)<|zDs (zDr rfl rfl (aV (zAg rfl) hX [])<|zDr rfl rfl (aV (zAg rfl) hX [])<|zDr rfl rfl (aV (zAg rfl) hX []) zDt)<|zDs (zDr rfl rfl (aV (zDC (tsX 65 rfl) rfl) hX [])<|zDr rfl rfl (aV (zAg rfl) hX [])<|zDr rfl rfl (aV (zAg rfl) hX []) zDt)<|zDs (zDr rfl rfl (aV (zDC (tsX 65 rfl) rfl) hX [])<|zDr rfl rfl (aV (zAg rfl) hX [])<|zDr rfl rfl (aV (zAg rfl) hX []) zDt)<|zDs (zDr rfl rfl (aV (zDC (tsX 65 rfl) rfl) hX [])<|zDr rfl rfl (aV (zAg rfl) hX [])<|zDr rfl rfl (aV (zAg rfl) hX [])<|zDr rfl rfl (aV (zCJ (t:=Y4) (y:=x13) rfl e14) hX []) zDt)<|zDs (zDr rfl rfl (aV (zDE (faX 67 1 rfl) rfl rfl) hX [])<|zDr rfl rfl (aV (zAg rfl) hX []) zDt)<|zDs (zDr rfl rfl (aV (zDE (faX 67 1 rfl) rfl rfl) hX [])<|zDr rfl rfl (aV (zAg rfl) hX [])<|zDr rfl rfl (aV (zCJ (t:=Y4) (y:=x13) rfl e14) hX []) zDt)<|zDs (zDr rfl rfl (aV (zDE (faX 67 1 rfl) rfl rfl) hX [])<|zDr rfl rfl (aV (zAg rfl) hX [])<|zDr rfl rfl (aV (zCJ (t:=Y4) (y:=x13) rfl e14) hX []) zDt)<|zDs (zDr rfl rfl (aV (zDE (faX 67 1 rfl) rfl rfl) hX [])<|zDr rfl rfl (aV (zAg rfl) hX [])<|zDr rfl rfl (aV (zAg rfl) hX [])<|zDr rfl rfl (aV (zDE (faX 67 1 rfl) rfl rfl) hX []) zDt)<|zDs (zDr rfl rfl (aV (zCJ (t:=Y4) (y:=x9) rfl e10) hX [])<|zDr rfl rfl (aV (zCJ (t:=Y4) (y:=x13) rfl e14) hX []) zDt)<|zDs (zDr rfl rfl (aV (zCJ (t:=Y4) (y:=x9) rfl e10) hX [])<|zDr rfl rfl (aV (zAg rfl) hX [])<|zDr rfl rfl (aV (zDE (faX 67 1 rfl) rfl rfl) hX []) zDt)<|zDs (zDr rfl rfl (aV (zCJ (t:=Y4) (y:=x9) rfl e10) hX [])<|zDr rfl rfl (aV (zAg rfl) hX [])<|zDr rfl rfl (aV (zDE (faX 67 1 rfl) rfl rfl) hX []) zDt)<|zDs (zDr rfl rfl (aV (zCJ (t:=Y4) (y:=x9) rfl e10) hX [])<|zDr rfl rfl (aV (zAg rfl) hX [])<|zDr rfl rfl (aV (zAg rfl) hX [])<|zDr rfl rfl (aV (zDC (tsX 65 rfl) rfl) hX []) zDt)<|zDs (zDr rfl rfl (aV (zAg rfl) hX [])<|zDr rfl rfl (aV (zDE (faX 67 1 rfl) rfl rfl) hX []) zDt)<|zDs (zDr rfl rfl (aV (zAg rfl) hX [])<|zDr rfl rfl (aV (zAg rfl) hX [])<|zDr rfl rfl (aV (zDC (tsX 65 rfl) rfl) hX []) zDt)<|zDs (zDr rfl rfl (aV (zAg rfl) hX [])<|zDr rfl rfl (aV (zAg rfl) hX [])<|zDr rfl rfl (aV (zDC (tsX 65 rfl) rfl) hX []) zDt)<|zDs (zDr rfl rfl (aV (zAg rfl) hX [])<|zDr rfl rfl (aV (zAg rfl) hX [])<|zDr rfl rfl (aV (zAg rfl) hX [])<|zDr rfl rfl (aV (zA0 (t:=Y3) rfl rfl (undX 65 rfl) rfl) hX []) zDt)<|zDs (zDr rfl rfl (aV (zAg rfl) hX [])<|zDr rfl rfl (aV (zAg rfl) hX []) zDt)<|zDs (zDr rfl rfl (aV (zAg rfl) hX [])<|zDr rfl rfl (aV (zAg rfl) hX []) zDt)<|zDs (zDr rfl rfl (aV (zAg rfl) hX [])<|zDr rfl rfl (aV (zAg rfl) hX [])<|zDr rfl rfl (aV (zCJ (t:=Y4) (y:=x13) rfl e14) hX []) zDt)<|zDs (zDr rfl rfl (aV (zDC (tsX 65 rfl) rfl) hX [])<|zDr rfl rfl (aV (zAg rfl) hX []) zDt)<|zDs (zDr rfl rfl (aV (zDC (tsX 65 rfl) rfl) hX [])<|zDr rfl rfl (aV (zAg rfl) hX [])<|zDr rfl rfl (aV (zCJ (t:=Y4) (y:=x13) rfl e14) hX []) zDt)<|zDs (zDr rfl rfl (aV (zDC (tsX 65 rfl) rfl) hX [])<|zDr rfl rfl (aV (zAg rfl) hX [])<|zDr rfl rfl (aV (zCJ (t:=Y4) (y:=x13) rfl e14) hX []) zDt)<|zDs (zDr rfl rfl (aV (zDC (tsX 65 rfl) rfl) hX [])<|zDr rfl rfl (aV (zAg rfl) hX [])<|zDr rfl rfl (aV (zAg rfl) hX [])<|zDr rfl rfl (aV (zDE (faX 67 1 rfl) rfl rfl) hX []) zDt)<|zDs (zDr rfl rfl (aV (zDE (faX 67 1 rfl) rfl rfl) hX [])<|zDr rfl rfl (aV (zCJ (t:=Y4) (y:=x13) rfl e14) hX []) zDt)<|zDs (zDr rfl rfl (aV (zDE (faX 67 1 rfl) rfl rfl) hX [])<|zDr rfl rfl (aV (zAg rfl) hX [])<|zDr rfl rfl (aV (zDE (faX 67 1 rfl) rfl rfl) hX []) zDt)<|zDs (zDr rfl rfl (aV (zDE (faX 67 1 rfl) rfl rfl) hX [])<|zDr rfl rfl (aV (zAg rfl) hX [])<|zDr rfl rfl (aV (zDE (faX 67 1 rfl) rfl rfl) hX []) zDt)<|zDs (zDr rfl rfl (aV (zDE (faX 67 1 rfl) rfl rfl) hX [])<|zDr rfl rfl (aV (zAg rfl) hX [])<|zDr rfl rfl (aV (zAg rfl) hX [])<|zDr rfl rfl (aV (zDC (tsX 65 rfl) rfl) hX []) zDt)<|zDs (zDr rfl rfl (aV (zCJ (t:=Y4) (y:=x9) rfl e10) hX [])<|zDr rfl rfl (aV (zDE (faX 67 1 rfl) rfl rfl) hX []) zDt)<|zDs (zDr rfl rfl (aV (zCJ (t:=Y4) (y:=x9) rfl e10) hX [])<|zDr rfl rfl (aV (zAg rfl) hX [])<|zDr rfl rfl (aV (zDC (tsX 65 rfl) rfl) hX []) zDt)<|zDs (zDr rfl rfl (aV (zCJ (t:=Y4) (y:=x9) rfl e10) hX [])<|zDr rfl rfl (aV (zAg rfl) hX [])<|zDr rfl rfl (aV (zDC (tsX 65 rfl) rfl) hX []) zDt)<|zDs (zDr rfl rfl (aV (zCJ (t:=Y4) (y:=x9) rfl e10) hX [])<|zDr rfl rfl (aV (zAg rfl) hX [])<|zDr rfl rfl (aV (zAg rfl) hX [])<|zDr rfl rfl (aV (zA0 (t:=Y3) rfl rfl (undX 65 rfl) rfl) hX []) zDt)<|zDs (zDr rfl rfl (aV (zAg rfl) hX [])<|zDr rfl rfl (aV (zDC (tsX 65 rfl) rfl) hX []) zDt)<|zDs (zDr rfl rfl (aV (zAg rfl) hX [])<|zDr rfl rfl (aV (zAg rfl) hX [])<|zDr rfl rfl (aV (zA0 (t:=Y3) rfl rfl (undX 65 rfl) rfl) hX []) zDt)<|zDs (zDr rfl rfl (aV (zAg rfl) hX [])<|zDr rfl rfl (aV (zAg rfl) hX [])<|zDr rfl rfl (aV (zA0 (t:=Y3) rfl rfl (undX 65 rfl) rfl) hX []) zDt)<|zDs (zDr rfl rfl (aV (zAg rfl) hX [])<|zDr rfl rfl (aV (zAg rfl) hX [])<|zDr rfl rfl (aV (zAg rfl) hX []) zDt)<|zDs (zDr rfl rfl (aV (zDD (t:=Y3) (l:=(min p2 (List.length x5.2 : Int))) (h:=(w64 ((min p2 (List.length x5.2 : Int))+(min p3 (w64 ((List.length x7.2 : Int) - (min p2 (List.length x5.2 : Int)))))))) (undX 65 rfl) (szX 36 rfl) rfl ⟨_,rfl⟩ ⟨_,rfl⟩ h11) hX [])<|zDr rfl rfl (aV (zAg rfl) hX []) zDt)<|zDs (zDr rfl rfl (aV (zAg rfl) hX [])<|zDr rfl rfl (aV (zCJ (t:=Y4) (y:=x13) rfl e14) hX []) zDt)<|zDs (zDr rfl rfl (aV (zAg rfl) hX [])<|zDr rfl rfl (aV (zCJ (t:=Y4) (y:=x13) rfl e14) hX []) zDt)<|zDs (zDr rfl rfl (aV (zAg rfl) hX [])<|zDr rfl rfl (aV (zAg rfl) hX [])<|zDr rfl rfl (aV (zDE (faX 67 1 rfl) rfl rfl) hX []) zDt)<|zDs (zDr rfl rfl (aV (zDC (tsX 65 rfl) rfl) hX [])<|zDr rfl rfl (aV (zCJ (t:=Y4) (y:=x13) rfl e14) hX []) zDt)<|zDs (zDr rfl rfl (aV (zDC (tsX 65 rfl) rfl) hX [])<|zDr rfl rfl (aV (zAg rfl) hX [])<|zDr rfl rfl (aV (zDE (faX 67 1 rfl) rfl rfl) hX []) zDt)<|zDs (zDr rfl rfl (aV (zDC (tsX 65 rfl) rfl) hX [])<|zDr rfl rfl (aV (zAg rfl) hX [])<|zDr rfl rfl (aV (zDE (faX 67 1 rfl) rfl rfl) hX []) zDt)<|zDs (zDr rfl rfl (aV (zDC (tsX 65 rfl) rfl) hX [])<|zDr rfl rfl (aV (zAg rfl) hX [])<|zDr rfl rfl (aV (zAg rfl) hX [])<|zDr rfl rfl (aV (zDC (tsX 65 rfl) rfl) hX []) zDt)<|zDs (zDr rfl rfl (aV (zDE (faX 67 1 rfl) rfl rfl) hX [])<|zDr rfl rfl (aV (zDE (faX 67 1 rfl) rfl rfl) hX []) zDt)<|zDs (zDr rfl rfl (aV (zDE (faX 67 1 rfl) rfl rfl) hX [])<|zDr rfl rfl (aV (zAg rfl) hX [])<|zDr rfl rfl (aV (zDC (tsX 65 rfl) rfl) hX []) zDt)<|zDs (zDr rfl rfl (aV (zDE (faX 67 1 rfl) rfl rfl) hX [])<|zDr rfl rfl (aV (zAg rfl) hX [])<|zDr rfl rfl (aV (zDC (tsX 65 rfl) rfl) hX []) zDt)<|zDs (zDr rfl rfl (aV (zDE (faX 67 1 rfl) rfl rfl) hX [])<|zDr rfl rfl (aV (zAg rfl) hX [])<|zDr rfl rfl (aV (zAg rfl) hX [])<|zDr rfl rfl (aV (zA0 (t:=Y3) rfl rfl (undX 65 rfl) rfl) hX []) zDt)<|zDs (zDr rfl rfl (aV (zCJ (t:=Y4) (y:=x9) rfl e10) hX [])<|zDr rfl rfl (aV (zDC (tsX 65 rfl) rfl) hX []) zDt)<|zDs (zDr rfl rfl (aV (zCJ (t:=Y4) (y:=x9) rfl e10) hX [])<|zDr rfl rfl (aV (zAg rfl) hX [])<|zDr rfl rfl (aV (zA0 (t:=Y3) rfl rfl (undX 65 rfl) rfl) hX []) zDt)<|zDs (zDr rfl rfl (aV (zCJ (t:=Y4) (y:=x9) rfl e10) hX [])<|zDr rfl rfl (aV (zAg rfl) hX [])<|zDr rfl rfl (aV (zA0 (t:=Y3) rfl rfl (undX 65 rfl) rfl) hX []) zDt)<|zDs (zDr rfl rfl (aV (zCJ (t:=Y4) (y:=x9) rfl e10) hX [])<|zDr rfl rfl (aV (zAg rfl) hX [])<|zDr rfl rfl (aV (zAg rfl) hX []) zDt)<|zDs (zDr rfl rfl (aV (zAg rfl) hX [])<|zDr rfl rfl (aV (zA0 (t:=Y3) rfl rfl (undX 65 rfl) rfl) hX []) zDt)<|zDs (zDr rfl rfl (aV (zAg rfl) hX [])<|zDr rfl rfl (aV (zAg rfl) hX []) zDt)<|zDs (zDr rfl rfl (aV (zAg rfl) hX [])<|zDr rfl rfl (aV (zAg rfl) hX []) zDt)<|zDs (zDr rfl rfl (zDM rfl rfl app65 rfl rfl h12 rfl (wkA hX [0]))<|zDr rfl rfl (aV (zAg rfl) hX []) zDt)<|zDs (zDr rfl rfl (aV (zDD (t:=Y3) (l:=(min p2 (List.length x5.2 : Int))) (h:=(w64 ((min p2 (List.length x5.2 : Int))+(min p3 (w64 ((List.length x7.2 : Int) - (min p2 (List.length x5.2 : Int)))))))) (undX 65 rfl) (szX 36 rfl) rfl ⟨_,rfl⟩ ⟨_,rfl⟩ h11) hX [])<|zDr rfl rfl (aV (zCJ (t:=Y4) (y:=x13) rfl e14) hX []) zDt)<|zDs (zDr rfl rfl (aV (zAg rfl) hX [])<|zDr rfl rfl (aV (zDE (faX 67 1 rfl) rfl rfl) hX []) zDt)<|zDs (zDr rfl rfl (aV (zAg rfl) hX [])<|zDr rfl rfl (aV (zDE (faX 67 1 rfl) rfl rfl) hX []) zDt)<|zDs (zDr rfl rfl (aV (zAg rfl) hX [])<|zDr rfl rfl (aV (zAg rfl) hX [])<|zDr rfl rfl (aV (zDC (tsX 65 rfl) rfl) hX []) zDt)<|zDs (zDr rfl rfl (aV (zDC (tsX 65 rfl) rfl) hX [])<|zDr rfl rfl (aV (zDE (faX 67 1 rfl) rfl rfl) hX []) zDt)<|zDs (zDr rfl rfl (aV (zDC (tsX 65 rfl) rfl) hX [])<|zDr rfl rfl (aV (zAg rfl) hX [])<|zDr rfl rfl (aV (zDC (tsX 65 rfl) rfl) hX []) zDt)<|zDs (zDr rfl rfl (aV (zDC (tsX 65 rfl) rfl) hX [])<|zDr rfl rfl (aV (zAg rfl) hX [])<|zDr rfl rfl (aV (zDC (tsX 65 rfl) rfl) hX []) zDt)<|zDs (zDr rfl rfl (aV (zDC (tsX 65 rfl) rfl) hX [])<|zDr rfl rfl (aV (zAg rfl) hX [])<|zDr rfl rfl (aV (zAg rfl) hX [])<|zDr rfl rfl (aV (zA0 (t:=Y3) rfl rfl (undX 65 rfl) rfl) hX []) zDt)<|zDs (zDr rfl rfl (aV (zDE (faX 67 1 rfl) rfl rfl) hX [])<|zDr rfl rfl (aV (zDC (tsX 65 rfl) rfl) hX []) zDt)<|zDs (zDr rfl rfl (aV (zDE (faX 67 1 rfl) rfl rfl) hX [])<|zDr rfl rfl (aV (zAg rfl) hX [])<|zDr rfl rfl (aV (zA0 (t:=Y3) rfl rfl (undX 65 rfl) rfl) hX []) zDt)<|zDs (zDr rfl rfl (aV (zDE (faX 67 1 rfl) rfl rfl) hX [])<|zDr rfl rfl (aV (zAg rfl) hX [])<|zDr rfl rfl (aV (zA0 (t:=Y3) rfl rfl (undX 65 rfl) rfl) hX []) zDt)<|zDs (zDr rfl rfl (aV (zDE (faX 67 1 rfl) rfl rfl) hX [])<|zDr rfl rfl (aV (zAg rfl) hX [])<|zDr rfl rfl (aV (zAg rfl) hX []) zDt)<|zDs (zDr rfl rfl (aV (zCJ (t:=Y4) (y:=x9) rfl e10) hX [])<|zDr rfl rfl (aV (zA0 (t:=Y3) rfl rfl (undX 65 rfl) rfl) hX []) zDt)<|zDs (zDr rfl rfl (aV (zCJ (t:=Y4) (y:=x9) rfl e10) hX [])<|zDr rfl rfl (aV (zAg rfl) hX []) zDt)<|zDs (zDr rfl rfl (aV (zCJ (t:=Y4) (y:=x9) rfl e10) hX [])<|zDr rfl rfl (aV (zAg rfl) hX []) zDt)<|zDs (zDr rfl rfl (aV (zAg rfl) hX []) zDt)<|zDs (zDr rfl rfl (aV (zAg rfl) hX [0])<|zDr rfl rfl (aV (zDJ rfl) hX [0]) zDt)<|zDs (zDr rfl rfl (zDM rfl rfl app65 rfl rfl h12 rfl (wkA hX [0]))<|zDr rfl rfl (aV (zCJ (t:=Y4) (y:=x13) rfl e14) hX []) zDt)<|zDs (zDr rfl rfl (aV (zDD (t:=Y3) (l:=(min p2 (List.length x5.2 : Int))) (h:=(w64 ((min p2 (List.length x5.2 : Int))+(min p3 (w64 ((List.length x7.2 : Int) - (min p2 (List.length x5.2 : Int)))))))) (undX 65 rfl) (szX 36 rfl) rfl ⟨_,rfl⟩ ⟨_,rfl⟩ h11) hX [])<|zDr rfl rfl (aV (zDE (faX 67 1 rfl) rfl rfl) hX []) zDt)<|zDs (zDr rfl rfl (aV (zAg rfl) hX [])<|zDr rfl rfl (aV (zDC (tsX 65 rfl) rfl) hX []) zDt)<|zDs (zDr rfl rfl (aV (zAg rfl) hX [])<|zDr rfl rfl (aV (zDC (tsX 65 rfl) rfl) hX []) zDt)<|zDs (zDr rfl rfl (aV (zAg rfl) hX [])<|zDr rfl rfl (aV (zAg rfl) hX [])<|zDr rfl rfl (aV (zA0 (t:=Y3) rfl rfl (undX 65 rfl) rfl) hX []) zDt)<|zDs (zDr rfl rfl (aV (zDC (tsX 65 rfl) rfl) hX [])<|zDr rfl rfl (aV (zDC (tsX 65 rfl) rfl) hX []) zDt)<|zDs (zDr rfl rfl (aV (zDC (tsX 65 rfl) rfl) hX [])<|zDr rfl rfl (aV (zAg rfl) hX [])<|zDr rfl rfl (aV (zA0 (t:=Y3) rfl rfl (undX 65 rfl) rfl) hX []) zDt)<|zDs (zDr rfl rfl (aV (zDC (tsX 65 rfl) rfl) hX [])<|zDr rfl rfl (aV (zAg rfl) hX [])<|zDr rfl rfl (aV (zA0 (t:=Y3) rfl rfl (undX 65 rfl) rfl) hX []) zDt)<|zDs (zDr rfl rfl (aV (zDC (tsX 65 rfl) rfl) hX [])<|zDr rfl rfl (aV (zAg rfl) hX [])<|zDr rfl rfl (aV (zAg rfl) hX []) zDt)<|zDs (zDr rfl rfl (aV (zDE (faX 67 1 rfl) rfl rfl) hX [])<|zDr rfl rfl (aV (zA0 (t:=Y3) rfl rfl (undX 65 rfl) rfl) hX []) zDt)<|zDs (zDr rfl rfl (aV (zDE (faX 67 1 rfl) rfl rfl) hX [])<|zDr rfl rfl (aV (zAg rfl) hX []) zDt)<|zDs (zDr rfl rfl (aV (zDE (faX 67 1 rfl) rfl rfl) hX [])<|zDr rfl rfl (aV (zAg rfl) hX []) zDt)<|zDs (zDr rfl rfl (aV (zCJ (t:=Y4) (y:=x9) rfl e10) hX []) zDt)<|zDs (zDr rfl rfl (aV (zCJ (t:=Y4) (y:=x13) rfl e14) hX [0])<|zDr rfl rfl (aV (zDJ rfl) hX [0]) zDt)<|zDs (zDr rfl rfl (aV (zAg rfl) hX [0]) zDt)<|zDs (zDr rfl rfl (zDM rfl rfl app65 rfl rfl h12 rfl (wkA hX [0]))<|zDr rfl rfl (aV (zDE (faX 67 1 rfl) rfl rfl) hX []) zDt)<|zDs (zDr rfl rfl (aV (zDD (t:=Y3) (l:=(min p2 (List.length x5.2 : Int))) (h:=(w64 ((min p2 (List.length x5.2 : Int))+(min p3 (w64 ((List.length x7.2 : Int) - (min p2 (List.length x5.2 : Int)))))))) (undX 65 rfl) (szX 36 rfl) rfl ⟨_,rfl⟩ ⟨_,rfl⟩ h11) hX [])<|zDr rfl rfl (aV (zDC (tsX 65 rfl) rfl) hX []) zDt)<|zDs (zDr rfl rfl (aV (zAg rfl) hX [])<|zDr rfl rfl (aV (zA0 (t:=Y3) rfl rfl (undX 65 rfl) rfl) hX []) zDt)<|zDs (zDr rfl rfl (aV (zAg rfl) hX [])<|zDr rfl rfl (aV (zA0 (t:=Y3) rfl rfl (undX 65 rfl) rfl) hX []) zDt)<|zDs (zDr rfl rfl (aV (zAg rfl) hX [])<|zDr rfl rfl (aV (zAg rfl) hX []) zDt)<|zDs (zDr rfl rfl (aV (zDC (tsX 65 rfl) rfl) hX [])<|zDr rfl rfl (aV (zA0 (t:=Y3) rfl rfl (undX 65 rfl) rfl) hX []) zDt)<|zDs (zDr rfl rfl (aV (zDC (tsX 65 rfl) rfl) hX [])<|zDr rfl rfl (aV (zAg rfl) hX []) zDt)<|zDs (zDr rfl rfl (aV (zDC (tsX 65 rfl) rfl) hX [])<|zDr rfl rfl (aV (zAg rfl) hX []) zDt)<|zDs (zDr rfl rfl (aV (zDE (faX 67 1 rfl) rfl rfl) hX []) zDt)<|zDs (zDr rfl rfl (aV (zDE (faX 67 1 rfl) rfl rfl) hX [0])<|zDr rfl rfl (aV (zDJ rfl) hX [0]) zDt)<|zDs (zDr rfl rfl (aV (zCJ (t:=Y4) (y:=x13) rfl e14) hX [0]) zDt)<|zDs (zDr rfl rfl (zDM rfl rfl app65 rfl rfl h12 rfl (wkA hX [0]))<|zDr rfl rfl (aV (zDC (tsX 65 rfl) rfl) hX []) zDt)<|zDs (zDr rfl rfl (aV (zDD (t:=Y3) (l:=(min p2 (List.length x5.2 : Int))) (h:=(w64 ((min p2 (List.length x5.2 : Int))+(min p3 (w64 ((List.length x7.2 : Int) - (min p2 (List.length x5.2 : Int)))))))) (undX 65 rfl) (szX 36 rfl) rfl ⟨_,rfl⟩ ⟨_,rfl⟩ h11) hX [])<|zDr rfl rfl (aV (zA0 (t:=Y3) rfl rfl (undX 65 rfl) rfl) hX []) zDt)<|zDs (zDr rfl rfl (aV (zAg rfl) hX []) zDt)<|zDs (zDr rfl rfl (aV (zAg rfl) hX []) zDt)<|zDs (zDr rfl rfl (aV (zDC (tsX 65 rfl) rfl) hX []) zDt)<|zDs (zDr rfl rfl (aV (zDC (tsX 65 rfl) rfl) hX [0])<|zDr rfl rfl (aV (zDJ rfl) hX [0]) zDt)<|zDs (zDr rfl rfl (aV (zDE (faX 67 1 rfl) rfl rfl) hX [0]) zDt)<|zDs (zDr rfl rfl (zDM rfl rfl app65 rfl rfl h12 rfl (wkA hX [0]))<|zDr rfl rfl (aV (zA0 (t:=Y3) rfl rfl (undX 65 rfl) rfl) hX []) zDt)<|zDs (zDr rfl rfl (aV (zDD (t:=Y3) (l:=(min p2 (List.length x5.2 : Int))) (h:=(w64 ((min p2 (List.length x5.2 : Int))+(min p3 (w64 ((List.length x7.2 : Int) - (min p2 (List.length x5.2 : Int)))))))) (undX 65 rfl) (szX 36 rfl) rfl ⟨_,rfl⟩ ⟨_,rfl⟩ h11) hX []) zDt)<|zDs (zDr rfl rfl (aV (zA0 (t:=Y3) rfl rfl (undX 65 rfl) rfl) hX [0])<|zDr rfl rfl (aV (zDJ rfl) hX [0]) zDt)<|zDs (zDr rfl rfl (aV (zDC (tsX 65 rfl) rfl) hX [0]) zDt)<|zDs (zDr rfl rfl (zDM rfl rfl app65 rfl rfl h12 rfl (wkA hX [0])) zDt)<|zDs (zDr rfl rfl (aV (zDJ rfl) hX [0]) zDt)<|zDs (zDr rfl rfl (aV (zA0 (t:=Y3) rfl rfl (undX 65 rfl) rfl) hX [0]) zDt)<|zDs (zDr rfl rfl (aV (zDJ rfl) hX [0]) zDt)<|zDs (zDr rfl rfl (aV (zDJ rfl) hX [0]) zDt)<|zDs zDt<|?_
   exact obd_n
  obtain rfl:=Option.some.inj hr
  exact zAZ (zAw (zAe (l':=[(8,.osl 0),(9,.i (List.length x13.2 : Int)),(10,.i 0)]) (Hs:=[(0,.sl 36 Y3 ((x9.2.take (Int.toNat (w64 ((min p2 (List.length x5.2 : Int))+(min p3 (w64 ((List.length x7.2 : Int) - (min p2 (List.length x5.2 : Int))))))))).drop (Int.toNat (min p2 (List.length x5.2 : Int)))))]) (n:=1) (zAA hX [0] 4 rfl rfl wS wO) rfl rfl rfl ⟨rfl,rfl,rfl,trivial⟩))
theorem g35_runs {p0:ZE}{p1:ZE}{r:Bool}(hr:g35 p0 p1=some r) : zBb Tryz.prog 35 [.sl Y3 p0,.sl Y3 p1] [.bool r]:=by
 refine zAW Tryz.func35 Tryz.ntmps35 rfl (rs:=[.tmp 4]) rfl rfl fun w0 X hX=>?_
 refine sq<|rg<|V va<|nl<|an<|sq<|sq<|rg<|V vm<|V vnl<|V vm<|V vnl<|V vne<|nl<|an<|?_
 refine cnd (fun hc1 hr=>?_) (fun hc1 hr=>?_)
 ·refine sq<|rg<|V va<|?_
  obtain rfl:=Option.some.inj hr
  exact nl<|an<|cr<|zAC (zAk (l':=[(4,.bool false)]) (zAA hX [] 4 rfl rfl wS trivial) rfl ⟨rfl,trivial⟩)
 ·obtain ⟨o4,e5,hr⟩:=zA hr
  refine sk<|an<|sq<|sq<|rg<|V vm<|V vnl<|V vm<|nl<|an<|bl<|?_
  refine zAb (t:=0) rfl (fun hl=>?_)
  refine zAI (List.length p0 : Int) (g35_b0 p0 p1) (fun p=>match p with | (i2,())=>(⟨[(0,.sl Y3 p0),(1,.sl Y3 p1),(4,.bool false),(12,.i (List.length p0 : Int)),(13,.i i2)],[],0⟩ : AS)) (fun o e st=>match o with | .inl ()=>e=.exit 0∧Wk X st ⟨[(4,.bool false)],[],0⟩ | .inr ()=>e=.ret∧Wk X st ⟨[(4,.bool false)],[],0⟩) (zAf hl) e5 (by exact zAA hX [] 4 rfl rfl wS trivial) ?_ ?_
  ·intro e st hx
   rcases o4 with _ | _
   ·obtain ⟨rfl,hw⟩:=hx
    refine bh<|an<|(zAY hw)<|sq<|rg<|V va<|?_
    obtain rfl:=Option.some.inj hr
    exact nl<|an<|cr<|zAk (l':=[(4,.bool true)]) (zAA hX [] 4 rfl rfl wS trivial) rfl ⟨rfl,trivial⟩
   ·obtain ⟨rfl,hw⟩:=hx
    obtain rfl:=Option.some.inj hr
    exact zAE (zAC (zAk (l':=[(4,.bool false)]) (Wk.trans hw (zAA hX [] 4 rfl rfl wS trivial)) rfl ⟨rfl,trivial⟩))
  ·rintro i2 _ o ho
   refine sq<|rg<|V vls<|nl<|an<|sq<|?_
   refine zAO (b:=decide (i2 < (List.length p0 : Int))) rfl (fun hc6=>?_) (fun hc6=>?_)
   ·obtain ⟨q,hr,rfl⟩:=zA7 hc6 ho
    obtain ⟨x7,e8,hr⟩:=zA hr
    obtain ⟨x9,e10,hr⟩:=zA hr
    refine sk<|an<|sq<|bl<|sq<|rg<|V vm<|V va<|nl<|an<|sq<|?_
    refine zBE mixed [0,1,4,12,13,5] [(true,.sl Y3 p0),(true,.i i2),(true,.rp [.str x7.1.1,.str x7.1.2,.str x7.2.1,.i x7.2.2.1,.bool x7.2.2.2]),(true,.agg [.str x7.1.1,.str x7.1.2,.str x7.2.1,.i x7.2.2.1,.bool x7.2.2.2]),(true,.sl Y3 p1),(true,.i i2),(true,.rp [.str x9.1.1,.str x9.1.2,.str x9.2.1,.i x9.2.2.1,.bool x9.2.2.2]),(true,.agg [.str x9.1.1,.str x9.1.2,.str x9.2.1,.i x9.2.2.1,.bool x9.2.2.2]),(true,.bool (!((decide (bstr x7.1.1=bstr x9.1.1))&&((decide (bstr x7.1.2=bstr x9.1.2))&&((decide (bstr x7.2.1=bstr x9.2.1))&&((decide (x7.2.2.1=x9.2.2.1))&&(decide (x7.2.2.2=x9.2.2.2))))))))] [[],[],[0,1],[2],[],[],[4,5],[6],[3,7]] [8] rfl rfl rfl rfl rfl ⟨?_,?_,?_,?_,?_,?_,?_,?_,?_,trivial⟩ (zAD ⟨rfl,trivial⟩) ?_
    ·exact oB wm
    ·exact oB wm
    ·exact zAr rfl (fun hg=>zAD ⟨rfl,rfl,trivial⟩) (fun hg=>zAQ (t:=Y3) (e:=x7) (undX 65 rfl) (szX 36 rfl) rfl rfl e8)
    ·exact oB wlR
    ·exact oB wm
    ·exact oB wm
    ·exact zAr rfl (fun hg=>zAD ⟨rfl,rfl,trivial⟩) (fun hg=>zAQ (t:=Y3) (e:=x9) (undX 65 rfl) (szX 36 rfl) rfl rfl e10)
    ·exact oB wlR
    ·exact zAr rfl (fun hg=>zAD ⟨rfl,rfl,trivial⟩) (fun hg=>av_neqA (r:=(decide (bstr x7.1.1=bstr x9.1.1))&&((decide (bstr x7.1.2=bstr x9.1.2))&&((decide (bstr x7.2.1=bstr x9.2.1))&&((decide (x7.2.2.1=x9.2.2.1))&&(decide (x7.2.2.2=x9.2.2.2)))))) eq36 rfl rfl rfl rfl rfl rfl)
    refine an<|?_
    refine cnd (fun hc11 hr=>?_) (fun hc11 hr=>?_)
    ·refine sq<|rg<|V va<|?_
     obtain rfl:=Option.some.inj hr
     exact nl<|an<|cr<|zAE (zAC (⟨rfl,(zAA hX [] 4 rfl rfl wS trivial)⟩))
    ·refine sk<|bn<|an<|rg<|V vad<|V vm<|?_
     obtain rfl:=Option.some.inj hr
     exact zAJ ((zAA hX [] 4 rfl rfl wS trivial))
   ·obtain rfl:=zA8 hc6 ho
    exact zAH (zAF (⟨rfl,(zAA hX [] 4 rfl rfl wS trivial)⟩))
theorem g55_rec {n:Nat}{rec:Int→(ZP)→(List (Int×Bool))→Option ((List (Int×Bool)))}{p0:Int}{p1:ZP}{p2_0:List (Int×Bool)}{r:(List (Int×Bool))}(hrc:rec=g55 n) (ih:∀ {p0:Int}{p1:ZP}{p2_0:List (Int×Bool)}{r:(List (Int×Bool))},rec p0 p1 p2_0=some r→Runs Tryz.prog 55 [.i p0,.rp [.rp [.dm .i (.map Y1 (.raw ifN)) p1.1,.i p1.2.1,.i p1.2.2]],.ptr 0 0,.ptr 2 0] [.var 114 [.map 1],.map .i .bool p2_0,.var 115 [.fn 55 [] [.rp [.rp [.dm .i (.map Y1 (.raw ifN)) p1.1,.i p1.2.1,.i p1.2.2]],.ptr 0 0,.ptr 2 0]]] (fun q Hq=>q=[]∧Hq=[.var 114 [.map 1],.map .i .bool r,.var 115 [.fn 55 [] [.rp [.rp [.dm .i (.map Y1 (.raw ifN)) p1.1,.i p1.2.1,.i p1.2.2]],.ptr 0 0,.ptr 2 0]]])) (hr:g55_r n rec p0 p1 p2_0=some r) : Runs Tryz.prog 55 [.i p0,.rp [.rp [.dm .i (.map Y1 (.raw ifN)) p1.1,.i p1.2.1,.i p1.2.2]],.ptr 0 0,.ptr 2 0] [.var 114 [.map 1],.map .i .bool p2_0,.var 115 [.fn 55 [] [.rp [.rp [.dm .i (.map Y1 (.raw ifN)) p1.1,.i p1.2.1,.i p1.2.2]],.ptr 0 0,.ptr 2 0]]] (fun q Hq=>q=[]∧Hq=[.var 114 [.map 1],.map .i .bool r,.var 115 [.fn 55 [] [.rp [.rp [.dm .i (.map Y1 (.raw ifN)) p1.1,.i p1.2.1,.i p1.2.2]],.ptr 0 0,.ptr 2 0]]]):=by
 refine zAW Tryz.func55 Tryz.ntmps55 rfl (rs:=[]) rfl rfl fun w0 X hX=>?_
 refine sq<|sq<|rg<|V vlr<|V vnr<|V vfr<|V vlr<|V vm<|?_
 refine V (zDS (kx:=p0) (r:=.tup [.dm Y1 (.raw ifN) ((mget p1.1 p0).getD []),.bool ((mget p1.1 p0).isSome)]) (undX 62 rfl) kt3 zw61 rfl rfl rfl rfl)<|V vm<|V vx<|V vx<|V va<|V va<|nl<|an<|sq<|?_
 refine zAa [0,1,2,3,6] [(true,.bool ((mget p1.1 p0).isSome)),(true,.bool (!((mget p1.1 p0).isSome))),(true,.bool (!((mget p1.1 p0).isSome))),(!(!((mget p1.1 p0).isSome)),.map 1),(!(!((mget p1.1 p0).isSome)),.i p0),(!(!((mget p1.1 p0).isSome)),.bool ((mget p2_0 p0).getD false)),(true,.bool ((!((mget p1.1 p0).isSome))||((mget p2_0 p0).getD false)))] [[],[0],[1],[2],[2],[3,4,2],[5,2]] [6] rfl rfl rfl rfl rfl ⟨?_,?_,?_,?_,?_,?_,?_,trivial⟩ (zAD ⟨rfl,trivial⟩) ?_
 ·exact oB wm
 ·exact oB wno
 ·exact oB wm
 ·exact oB wlp
 ·exact oB wm
 ·exact zAr ⟨rfl,rfl,rfl,_,rfl,rfl⟩ (fun hg=>zAD ⟨hg,hg,rfl,trivial⟩) (fun hg=>zBG (kx:=p0) (r:=.bool ((mget p2_0 p0).getD false)) (undX 114 rfl) kt3 zw4 rfl rfl rfl rfl rfl)
 ·exact zBr
 refine an<|?_
 refine cnd (fun hc2 hr=>?_) (fun hc2 hr=>?_)
 ·obtain rfl:=Option.some.inj hr
  exact zAw (zAC (zAe (l':=[]) (Hs:=[(0,.var 114 [.map 1]),(1,.map .i .bool p2_0),(2,.var 115 [.fn 55 [] [.rp [.rp [.dm .i (.map Y1 (.raw ifN)) p1.1,.i p1.2.1,.i p1.2.2]],.ptr 0 0,.ptr 2 0]])]) (n:=3) (zAA hX [0,1,2] 4 rfl rfl trivial wO) rfl rfl rfl trivial))
 ·refine sk<|an<|sq<|rg<|V vlp<|V vm<|?_
  refine zAK (zB (kx:=p0) (vx:=true) (undX 114 rfl) kt3 (.inl rfl) rfl rfl rfl rfl rfl rfl rfl ?_)
  refine nl<|an<|sq<|rg<|V vlr<|V vnr<|V vfr<|V vlr<|V vm<|?_
  refine V (zBA (kx:=p0) (r:=.dm Y1 (.raw ifN) ((mget p1.1 p0).getD [])) (undX 62 rfl) kt3 zw61 rfl rfl rfl rfl)<|?_
  refine zAK (aop_range_dm (undX 61 rfl) rfl (fun xs3 hp4=>?_))
  refine nl<|an<|bl<|?_
  obtain ⟨h11,hr⟩:=zAN hr
  obtain ⟨o9,e10,hr⟩:=zA hr
  refine awc_nd (i:=1) rfl rfl (fun hn21=>?_)
  refine zCi (S:=(List (Int×Bool))) (R:=Unit) (g55_m0 p1 rec) (fun p=>match p with | (l5,c6,s7)=>(⟨[(3,.ptr 2 0),(35,.map 3)],[(0,.var 114 [.map 1]),(1,.map .i .bool s7),(2,.var 115 [.fn 55 [] [.rp [.rp [.dm .i (.map Y1 (.raw ifN)) p1.1,.i p1.2.1,.i p1.2.2]],.ptr 0 0,.ptr 2 0]]),(3,.mit Y1 (.raw ifN) l5 c6)],4⟩ : AS)) (fun o e st=>match o with | .inr _=>False | .inl s7=>e=.exit 0∧Wk X st ⟨[],[(0,.var 114 [.map 1]),(1,.map .i .bool s7),(2,.var 115 [.fn 55 [] [.rp [.rp [.dm .i (.map Y1 (.raw ifN)) p1.1,.i p1.2.1,.i p1.2.2]],.ptr 0 0,.ptr 2 0]])],3⟩) (K:=fun r=>g55_m0_q r o9) (g55_m0_o hrc h11 hn21 e10) hp4 (by exact zAA hX [0,1,2,3] 4 rfl rfl wS wO) ?_ ?_
  ·intro r hq e st hx
   rcases o9 with s7 | o9
   ·rcases r with s7z | r
    ·have hq : s7z.Perm s7:=hq
     obtain ⟨rfl,hw⟩:=hx
     obtain rfl:=Option.some.inj hr
     exact zAl (zCz (zAe (l':=[]) (Hs:=[(0,.var 114 [.map 1]),(1,.map .i .bool s7),(2,.var 115 [.fn 55 [] [.rp [.rp [.dm .i (.map Y1 (.raw ifN)) p1.1,.i p1.2.1,.i p1.2.2]],.ptr 0 0,.ptr 2 0]])]) (n:=3) (Wk.trans (Wk.trans hw (wk_perm (i:=1) rfl rfl hq)) (zAA hX [0,1,2] 4 rfl rfl trivial wO)) rfl rfl rfl trivial))
    ·exact hq.elim
   ·rcases r with r | r
    ·exact hq.elim
    exact hx.elim
  ·rintro l5 c6 s7 K' hr
   refine sq<|rg<|?_
   refine zAK (aop_next_dm rfl rfl (fun h15=>?_) (fun q12 p13 hq14=>?_))
   ·have hk:=hr.1 h15
    refine V vx<|?_
    exact zAJ (zAZ (zDO (zA3 rfl (zAH (zAF (⟨_,hk,rfl,(zAA hX [0,1,2] 4 rfl rfl trivial wO)⟩))))))
   ·obtain ⟨o,hr,hk⟩:=hr.2 q12 p13 hq14
    obtain ⟨x16,e17,hr⟩:=zA hr
    refine V vx<|nl<|an<|sq<|?_
    refine zCZ rfl<|sk<|an<|bl<|sq<|rg<|V (av_entry_dm rfl rfl rfl)<|V vx<|V va<|nl<|an<|sq<|rg<|V vm<|?_
    refine V (zDe (c:=p13.2) (undX 86 rfl) (zDB 86 rfl) rfl e17)<|V vm<|V vx<|V vx<|V va<|V va<|nl<|an<|sq<|rg<|V vm<|nl<|an<|?_
    refine cnd (fun hc18 hr=>?_) (fun hc18 hr=>?_)
    ·obtain ⟨x19,e20,hr⟩:=zA hr
     refine rg<|V vlp<|V vm<|?_
     refine zAK (aop_callOv (σ:=[0,1,2]) (as':=[.i x16.1]) rfl (ih e20).x ent55 rfl ⟨cv0,cv0,cv0,cv0,trivial⟩ rfl rfl rfl ?_)
     obtain rfl:=Option.some.inj hr
     exact zAJ (zAS (⟨_,hk (some p13),(zAA hX [0,1,2,3] 4 rfl rfl wS wO)⟩))
    ·obtain rfl:=Option.some.inj hr
     exact zAv (zAS (⟨_,hk (some p13),(zAA hX [0,1,2,3] 4 rfl rfl wS wO)⟩))
theorem g55_runs : ∀ {n:Nat}{p0:Int}{p1:ZP}{p2_0:List (Int×Bool)}{r:(List (Int×Bool))},g55 n p0 p1 p2_0=some r→Runs Tryz.prog 55 [.i p0,.rp [.rp [.dm .i (.map Y1 (.raw ifN)) p1.1,.i p1.2.1,.i p1.2.2]],.ptr 0 0,.ptr 2 0] [.var 114 [.map 1],.map .i .bool p2_0,.var 115 [.fn 55 [] [.rp [.rp [.dm .i (.map Y1 (.raw ifN)) p1.1,.i p1.2.1,.i p1.2.2]],.ptr 0 0,.ptr 2 0]]] (fun q Hq=>q=[]∧Hq=[.var 114 [.map 1],.map .i .bool r,.var 115 [.fn 55 [] [.rp [.rp [.dm .i (.map Y1 (.raw ifN)) p1.1,.i p1.2.1,.i p1.2.2]],.ptr 0 0,.ptr 2 0]]]):=by
 intro n
 induction n with
 | zero=>intro p0 p1 p2_0 r hr; exact nomatch (show (none:Option ((List (Int×Bool))))=some r from hr)
 | succ n ih=>intro p0 p1 p2_0 r hr; exact g55_rec (rec:=g55 n) rfl (fun h=>ih h) hr
theorem g18_runs {p0:ZP}{p1:Int}{r:Int×List Int}(hr:g18 p0 p1=some r) : Runs Tryz.prog 18 [.rp [.dm .i (.map Y1 (.raw ifN)) p0.1,.i p0.2.1,.i p0.2.2],.i p1] [] (fun q Hq=>q=[.osl 0,.i r.1]∧Hq=[.sl 3 .i r.2]):=by
 refine zAW Tryz.func18 Tryz.ntmps18 rfl (rs:=[.tmp 4,.tmp 5]) rfl rfl fun w0 X hX=>?_
 obtain ⟨x2,e3,hr⟩:=zA hr
 refine sq<|rg<|O ob<|V va<|V va<|nl<|an<|sq<|sq<|rg<|V vlp<|V vm<|?_
 refine V (zAM (t:=.i) (qs:=[(0,[.i p1])]) (ys:=[p1]) bs47 rfl rfl rfl rfl rfl rfl rfl rfl)<|?_
 refine V (zAV (g41_runs e3).x ent41 rfl rfl)<|V va<|nl<|an<|sq<|rg<|V vm<|V vne<|nl<|an<|?_
 refine cnd (fun hc4 hr=>?_) (fun hc4 hr=>?_)
 ·refine sq<|rg<|V vm<|V va<|V va<|?_
  obtain rfl:=Option.some.inj hr
  exact nl<|an<|cr<|zAC (zAe (l':=[(4,.osl 0),(5,.i x2)]) (Hs:=[(0,.sl 3 .i ([] : List Int))]) (n:=1) (Wk.trans (zAt (t:=4) 3 .i rfl) (zAA hX [1] 4 rfl rfl wS wO)) rfl rfl rfl ⟨rfl,rfl,trivial⟩)
 ·refine sk<|an<|sq<|rg<|?_
  refine zAK (zB6 .i .bool rfl ?_)
  obtain ⟨x5,e6,hr⟩:=zA hr
  refine O oa<|O os<|nl<|an<|sq<|rg<|O oa<|nl<|an<|sq<|rg<|?_
  refine V (zA4 (us:=[]) (vs:=[.ptr 0 0,.ptr 2 0,.ptr 3 0]) rfl rfl)<|O os<|nl<|an<|sq<|rg<|V vlp<|V vm<|?_
  refine zAG (zAA (st':=⟨[(0,.rp [.dm .i (.map Y1 (.raw ifN)) p0.1,.i p0.2.1,.i p0.2.2]),(1,.i p1),(2,.rp [.rp [.dm .i (.map Y1 (.raw ifN)) p0.1,.i p0.2.1,.i p0.2.2]]),(4,.nils),(5,.i 0),(9,.rp [.dm .i (.map Y1 (.raw ifN)) p0.1,.i p0.2.1,.i p0.2.2]),(10,.i p1),(11,.sl .i [p1]),(12,.i x2),(6,.i x2),(13,.i x2),(14,.bool (!decide (x2=0))),(16,.map 0),(7,.ptr 1 0),(8,.ptr 2 0),(17,.fn 55 [] [.rp [.rp [.dm .i (.map Y1 (.raw ifN)) p0.1,.i p0.2.1,.i p0.2.2]],.ptr 1 0,.ptr 2 0]),(18,.fn 55 [] [.rp [.rp [.dm .i (.map Y1 (.raw ifN)) p0.1,.i p0.2.1,.i p0.2.2]],.ptr 1 0,.ptr 2 0]),(19,.i p1)],[(0,.map .i .bool []),(1,.var 114 [.map 0]),(2,.var 115 [.fn 55 [] [.rp [.rp [.dm .i (.map Y1 (.raw ifN)) p0.1,.i p0.2.1,.i p0.2.2]],.ptr 1 0,.ptr 2 0]])],3⟩) hX [1,2,3] 4 rfl rfl wS wO)<|?_
  refine zAK (aop_callOv (σ:=[1,0,2]) (as':=[.i p1]) rfl (g55_runs e6).x ent55 rfl ⟨cv0,cv0,cv0,cv0,trivial⟩ rfl rfl rfl ?_)
  obtain ⟨x7,e8,hr⟩:=zA hr
  refine nl<|an<|sq<|rg<|V vlp<|?_
  refine zAG (zAA (st':=⟨[(4,.nils),(5,.i 0),(7,.ptr 0 0),(21,.dm .i .bool x5)],[(0,.var 114 [.dm .i .bool x5]),(1,.var 115 [.fn 55 [] [.rp [.rp [.dm .i (.map Y1 (.raw ifN)) p0.1,.i p0.2.1,.i p0.2.2]],.ptr 0 0,.ptr 1 0]])],2⟩) hX [1,2] 4 rfl rfl wS wO)<|?_
  refine zAK (zAP (σ:=[]) (as':=[.dm .i .bool x5]) (k57_runs e8).x ent57 rfl ⟨cv0,trivial⟩ rfl rfl rfl ?_)
  obtain ⟨x9,e10,hr⟩:=zA hr
  refine zAK (zAP (σ:=[2]) (as':=[.fn 81 [] [.ptr 2 0]]) (k56_81_runs e10).x ent56 rfl ⟨cv0,trivial⟩ rfl rfl rfl ?_)
  refine V va<|V va<|?_
  obtain rfl:=Option.some.inj hr
  exact nl<|an<|cr<|zAe (l':=[(4,.osl 0),(5,.i 0)]) (Hs:=[(0,.sl 3 .i x9)]) (n:=1) (zAA hX [3] 4 rfl rfl wS wO) rfl rfl rfl ⟨rfl,rfl,trivial⟩
theorem ent52 : Enters Tryz.prog 52:=enters_of Tryz.func52 (by kernel_rfl) rfl
theorem app47 : AppT Tryz.prog 47 3 (Ty.cells (.int .i64)) 8:=appT_of (z:=.int .i64 0) (by kernel_rfl) (by kernel_rfl) rfl rfl
theorem ent58 : Enters Tryz.prog 58:=enters_of Tryz.func58 (by kernel_rfl) rfl
theorem ent12 : Enters Tryz.prog 12:=enters_of Tryz.func12 (by kernel_rfl) rfl
theorem ent26 : Enters Tryz.prog 26:=enters_of Tryz.func26 (by kernel_rfl) rfl
theorem ent13 : Enters Tryz.prog 13:=enters_of Tryz.func13 (by kernel_rfl) rfl
theorem ent28 : Enters Tryz.prog 28:=enters_of Tryz.func28 (by kernel_rfl) rfl
theorem ent29 : Enters Tryz.prog 29:=enters_of Tryz.func29 (by kernel_rfl) rfl
theorem eq38 {a0 b0:Int}{a1 b1:Int} : EqT Tryz.prog 38 [.int .i64 a0,.int .i64 a1] [.int .i64 b0,.int .i64 b1]:=⟨by kernel_rfl,fun w=>run_eqFlat (fs:=(Tryz.prog.fieldsOf 38).toList) (by kernel_rfl) (by kernel_rfl) (by kernel_rfl) (by kernel_rfl)⟩
theorem ent30 : Enters Tryz.prog 30:=enters_of Tryz.func30 (by kernel_rfl) rfl
theorem ent31 : Enters Tryz.prog 31:=enters_of Tryz.func31 (by kernel_rfl) rfl
theorem ent32 : Enters Tryz.prog 32:=enters_of Tryz.func32 (by kernel_rfl) rfl
theorem ent33 : Enters Tryz.prog 33:=enters_of Tryz.func33 (by kernel_rfl) rfl
theorem ent34 : Enters Tryz.prog 34:=enters_of Tryz.func34 (by kernel_rfl) rfl
theorem ent35 : Enters Tryz.prog 35:=enters_of Tryz.func35 (by kernel_rfl) rfl
theorem ent18 : Enters Tryz.prog 18:=enters_of Tryz.func18 (by kernel_rfl) rfl
theorem ent19 : Enters Tryz.prog 19:=enters_of Tryz.func19 (by kernel_rfl) rfl
theorem ent21 : Enters Tryz.prog 21:=enters_of Tryz.func21 (by kernel_rfl) rfl
theorem ent36 : Enters Tryz.prog 36:=enters_of Tryz.func36 (by kernel_rfl) rfl
theorem g52_runs {p0:List Int}{p1:Int}{r:Bool}(hr:g52 p0 p1=some r) : zBb Tryz.prog 52 [.sl .i p0,.i p1] [.bool r]:=by
 refine zAW Tryz.func52 Tryz.ntmps52 rfl (rs:=[.tmp 4]) rfl rfl fun w0 X hX=>?_
 obtain ⟨o3,e4,hr⟩:=zA hr
 refine sq<|rg<|V va<|nl<|an<|sq<|sq<|rg<|V vm<|V vnl<|V vm<|nl<|an<|bl<|?_
 refine zAb (t:=0) rfl (fun hl=>?_)
 refine zAI (List.length p0 : Int) (g52_b0 p0 p1) (fun p=>match p with | (i1,())=>(⟨[(1,.i p1),(4,.bool false),(7,.sl .i p0),(8,.i (List.length p0 : Int)),(9,.i i1)],[],0⟩ : AS)) (fun o e st=>match o with | .inl ()=>e=.exit 0∧Wk X st ⟨[(4,.bool false)],[],0⟩ | .inr ()=>e=.ret∧Wk X st ⟨[(4,.bool true)],[],0⟩) (zAf hl) e4 (by exact zAA hX [] 4 rfl rfl wS trivial) ?_ ?_
 ·intro e st hx
  rcases o3 with _ | _
  ·obtain ⟨rfl,hw⟩:=hx
   refine bh<|an<|(zAY hw)<|sq<|rg<|V va<|?_
   obtain rfl:=Option.some.inj hr
   exact nl<|an<|cr<|zAk (l':=[(4,.bool false)]) (zAA hX [] 4 rfl rfl wS trivial) rfl ⟨rfl,trivial⟩
  ·obtain ⟨rfl,hw⟩:=hx
   obtain rfl:=Option.some.inj hr
   exact zAE (zAC (zAk (l':=[(4,.bool true)]) (Wk.trans hw (zAA hX [] 4 rfl rfl wS trivial)) rfl ⟨rfl,trivial⟩))
 ·rintro i1 _ o ho
  refine sq<|rg<|V vls<|nl<|an<|sq<|?_
  refine zAO (b:=decide (i1 < (List.length p0 : Int))) rfl (fun hc5=>?_) (fun hc5=>?_)
  ·obtain ⟨q,hr,rfl⟩:=zA7 hc5 ho
   obtain ⟨x6,e7,hr⟩:=zA hr
   refine sk<|an<|sq<|bl<|sq<|rg<|V (zAQ (t:=.i) (e:=x6) (undX 47 rfl) (szX 3 rfl) rfl rfl e7)<|V vlr<|V va<|nl<|an<|sq<|rg<|V vm<|V vm<|V veq<|nl<|an<|?_
   refine cnd (fun hc8 hr=>?_) (fun hc8 hr=>?_)
   ·refine sq<|rg<|V va<|?_
    obtain rfl:=Option.some.inj hr
    exact nl<|an<|cr<|zAE (zAC (⟨rfl,(zAA hX [] 4 rfl rfl wS trivial)⟩))
   ·refine sk<|bn<|an<|rg<|V vad<|V vm<|?_
    obtain rfl:=Option.some.inj hr
    exact zAJ ((zAA hX [] 4 rfl rfl wS trivial))
  ·obtain rfl:=zA8 hc5 ho
   exact zAH (zAF (⟨rfl,(zAA hX [] 4 rfl rfl wS trivial)⟩))
theorem g19_runs {p0:ZQ}{p1:Int}{r:Int×List Int}(hr:g19 p0 p1=some r) : Runs Tryz.prog 19 [.rp [.sl Y4 p0.1,.i p0.2],.i p1] [] (fun q Hq=>q=[.osl 0,.i r.1]∧Hq=[.sl 3 .i r.2]):=by
 refine zAW Tryz.func19 Tryz.ntmps19 rfl (rs:=[.tmp 4,.tmp 5]) rfl rfl fun w0 X hX=>?_
 obtain ⟨x2,e3,hr⟩:=zA hr
 refine sq<|rg<|V va<|V va<|nl<|an<|sq<|sq<|rg<|V vm<|V vm<|?_
 refine V (zAV (zDa e3).x ent51 rfl rfl)<|?_
 refine V (zDW (t:=Y4) (undX 108 rfl) rfl rfl)<|nl<|an<|?_
 refine cnd (fun hc4 hr=>?_) (fun hc4 hr=>?_)
 ·refine sq<|rg<|V va<|V va<|?_
  obtain rfl:=Option.some.inj hr
  exact nl<|an<|cr<|zAC (zAe (l':=[(4,.osl 0),(5,.i 7)]) (Hs:=[(0,.sl 3 .i ([] : List Int))]) (n:=1) (Wk.trans (zAt (t:=4) 3 .i rfl) (zAA hX [0] 4 rfl rfl wS wO)) rfl rfl rfl ⟨rfl,rfl,trivial⟩)
 ·refine sk<|an<|sq<|rg<|V vm<|?_
  refine zAK (zBq (t:=.i) (qs:=[(0,[.i p1])]) (ys:=[p1]) bs47 rfl rfl rfl rfl rfl rfl rfl rfl ?_)
  obtain ⟨s10,e12,hr⟩:=zA hr
  refine V va<|nl<|an<|sq<|sq<|rg<|V va<|nl<|an<|bl<|?_
  refine awc_loop (S:=Int×List Int) (R:=List Int) (fun p=>match p with | (s5,s6)=>(⟨[(0,.rp [.sl Y4 p0.1,.i p0.2]),(4,.nils),(5,.i 0),(6,.osl 0),(7,.i s5)],[(0,.sl 3 .i s6)],1⟩ : AS)) (g19_b0 p0) (fun r e st=>match r with | s10=>e=.exit 0∧Wk X st ⟨[(4,.nils),(5,.i 0),(6,.osl 0)],[(0,.sl 3 .i s10)],1⟩) e12 (by exact zAA hX [0] 4 rfl rfl wS wO) ?_ ?_
  ·intro e st hx
   obtain ⟨rfl,hw⟩:=hx
   obtain ⟨x13,e14,hr⟩:=zA hr
   refine bh<|an<|(zAY hw)<|sq<|rg<|V vm<|?_
   refine zAK (zAP (σ:=[0]) (as':=[.osl 0]) (ints_runs e14).x ent58 rfl ⟨cv0,trivial⟩ rfl rfl rfl ?_)
   refine nl<|an<|sq<|rg<|V vm<|V va<|V va<|?_
   obtain rfl:=Option.some.inj hr
   exact nl<|an<|cr<|zAe (l':=[(4,.osl 0),(5,.i 0)]) (Hs:=[(0,.sl 3 .i x13)]) (n:=1) (zAA hX [0] 4 rfl rfl wS wO) rfl rfl rfl ⟨rfl,rfl,trivial⟩
  ·rintro ⟨s5,s6⟩ o hr
   refine sq<|sq<|rg<|V vm<|V vm<|V vnL<|V vls<|nl<|an<|?_
   refine cnd (fun hc15 hr=>?_) (fun hc15 hr=>?_)
   ·obtain ⟨x16,e17,hr⟩:=zA hr
    obtain ⟨x18,e19,hr⟩:=zA hr
    obtain ⟨x20,e21,hr⟩:=zA hr
    obtain ⟨o27,e28,hr⟩:=zA hr
    refine sk<|an<|sq<|bl<|sq<|rg<|V vm<|V vm<|V vm<|?_
    refine V (zAn (t:=.i) (undX 47 rfl) (szX 3 rfl) rfl rfl rfl e17)<|?_
    refine V (zAu (tsX 3 rfl) rfl rfl rfl (zCM e17) rfl)<|?_
    refine V (zAV (zDa e19).x ent51 rfl rfl)<|?_
    refine V (zCJ (t:=Y4) (y:=x20) rfl e21)<|V vfr<|V vlr<|V vnl<|V vm<|nl<|an<|bl<|?_
    refine zAb (t:=30) rfl (fun hl=>?_)
    refine zAI (List.length x20.2 : Int) (g19_b1 p0 x20) (fun p=>match p with | (i22,s24)=>(⟨[(0,.rp [.sl Y4 p0.1,.i p0.2]),(4,.nils),(5,.i 0),(6,.osl 0),(7,.i s5),(30,.sl Y3 x20.2),(31,.i (List.length x20.2 : Int)),(32,.i i22)],[(0,.sl 3 .i s24)],1⟩ : AS)) (fun o e st=>match o with | .inr _=>False | .inl s24=>e=.exit 2∧Wk X st ⟨[(0,.rp [.sl Y4 p0.1,.i p0.2]),(4,.nils),(5,.i 0),(6,.osl 0),(7,.i s5)],[(0,.sl 3 .i s24)],1⟩) (zAf hl) e28 (by exact zAA hX [0] 4 rfl rfl wS wO) ?_ ?_
    ·intro e st hx
     rcases o27 with s24 | _
     ·obtain ⟨rfl,hw⟩:=hx
      refine bh<|bn<|an<|(zAY hw)<|rg<|V vm<|V vad<|V va<|?_
      obtain rfl:=Option.some.inj hr
      exact zAJ ((zAA hX [0] 4 rfl rfl wS wO))
     ·exact hx.elim
    ·rintro i22 s24 o ho
     refine sq<|rg<|V vls<|nl<|an<|sq<|?_
     refine zAO (b:=decide (i22 < (List.length x20.2 : Int))) rfl (fun hc29=>?_) (fun hc29=>?_)
     ·obtain ⟨q,hr,rfl⟩:=zA7 hc29 ho
      obtain ⟨o31,e32,hr⟩:=zA hr
      refine sk<|an<|?_
      refine zAy (S:=List Int) (R:=Unit) (fun s=>match s with | s30=>(⟨[(0,.rp [.sl Y4 p0.1,.i p0.2]),(4,.nils),(5,.i 0),(6,.osl 0),(7,.i s5),(30,.sl Y3 x20.2),(31,.i (List.length x20.2 : Int)),(32,.i i22)],[(0,.sl 3 .i s30)],1⟩ : AS)) (fun _ _ _=>False) e32 (fun hr=>?_) ?_ ?_
      ·obtain ⟨x33,e34,hr⟩:=zA hr
       refine bl<|sq<|rg<|V (zAQ (t:=Y3) (e:=x33) (undX 65 rfl) (szX 36 rfl) rfl rfl e34)<|V vlR<|O oa<|O os<|nl<|an<|sq<|?_
       obtain ⟨h35,hr⟩:=zAN hr
       obtain ⟨h36,hr⟩:=zAN hr
       refine zAa [0,4,5,6,7,30,31,32,9] [(true,.ptr 1 4),(true,.bool x33.2.2.2),(true,.bool x33.2.2.2),(x33.2.2.2,.rp [.sl Y4 p0.1,.i p0.2]),(x33.2.2.2,.ptr 1 3),(x33.2.2.2,.i x33.2.2.1),(x33.2.2.2,.pd Y4 ((g51 p0 x33.2.2.1).getD default)),(x33.2.2.2,.bool (!(Option.isNone ((g51 p0 x33.2.2.1).getD default)))),(true,.bool (x33.2.2.2&&(!(Option.isNone ((g51 p0 x33.2.2.1).getD default))))),(true,.bool (x33.2.2.2&&(!(Option.isNone ((g51 p0 x33.2.2.1).getD default))))),(x33.2.2.2&&(!(Option.isNone ((g51 p0 x33.2.2.1).getD default))),.osl 0),(x33.2.2.2&&(!(Option.isNone ((g51 p0 x33.2.2.1).getD default))),.ptr 1 3),(x33.2.2.2&&(!(Option.isNone ((g51 p0 x33.2.2.1).getD default))),.i x33.2.2.1),(x33.2.2.2&&(!(Option.isNone ((g51 p0 x33.2.2.1).getD default))),.bool ((g52 s24 x33.2.2.1).getD default)),(x33.2.2.2&&(!(Option.isNone ((g51 p0 x33.2.2.1).getD default))),.bool (!((g52 s24 x33.2.2.1).getD default))),(true,.bool ((x33.2.2.2&&(!(Option.isNone ((g51 p0 x33.2.2.1).getD default))))&&(!((g52 s24 x33.2.2.1).getD default))))] [[],[0],[1],[2],[2],[4,2],[3,5,2],[6,2],[7,2],[8],[9],[9],[11,9],[10,12,9],[13,9],[14,9]] [15] rfl rfl rfl rfl rfl ⟨?_,?_,?_,?_,?_,?_,?_,?_,?_,?_,?_,?_,?_,?_,?_,?_,trivial⟩ (zAD ⟨rfl,trivial⟩) ?_
       ·exact oB wfp
       ·exact oB wlp
       ·exact oB wm
       ·exact oB wm
       ·exact oB wfp
       ·exact oB wlp
       ·exact zAr ⟨rfl,rfl,rfl,_,rfl,rfl⟩ (fun hg=>zAD ⟨hg,hg,rfl,trivial⟩) (fun hg=>zAV (zDa (zAz h35 hg)).x ent51 rfl rfl)
       ·exact zAr ⟨rfl,rfl,rfl,_,rfl,rfl⟩ (fun hg=>zAD ⟨hg,rfl,trivial⟩) (fun hg=>av_neqnil_pd (t:=Y4) (undX 108 rfl) rfl rfl)
       ·exact zBe
       ·exact oB wm
       ·exact oB wm
       ·exact oB wfp
       ·exact oB wlp
       ·exact zAr ⟨rfl,rfl,rfl,_,rfl,rfl⟩ (fun hg=>zAD ⟨hg,hg,rfl,trivial⟩) (fun hg=>zAj (as':=[.osl 0,.i x33.2.2.1]) (g52_runs (zAz h36 hg)).x ent52 rfl ⟨cv0,cv0,trivial⟩ rfl rfl)
       ·exact oB wno
       ·exact zBe
       refine an<|?_
       refine cnd (fun hc37 hr=>?_) (fun hc37 hr=>?_)
       ·refine rg<|V vm<|V vfp<|V vlp<|?_
        refine V (zAM (t:=.i) (qs:=[(0,[.i x33.2.2.1])]) (ys:=[x33.2.2.1]) bs47 rfl rfl rfl rfl rfl rfl rfl rfl)<|?_
        obtain ⟨h38,hr⟩:=zAN hr
        refine zAK (zAh rfl rfl app47 rfl rfl rfl h38 rfl ?_)
        refine V va<|?_
        obtain rfl:=Option.some.inj hr
        exact zAJ (zAS ((zAA hX [2] 4 rfl rfl wS wO)))
       ·obtain rfl:=Option.some.inj hr
        exact zAv (zAS ((zAA hX [0] 4 rfl rfl wS wO)))
      ·rintro s30 rfl
       refine rg<|V vad<|V vm<|?_
       obtain rfl:=Option.some.inj hr
       exact zAJ ((zAA hX [0] 4 rfl rfl wS wO))
      ·exact fun r h e st hne hx=>hx.elim
     ·obtain rfl:=zA8 hc29 ho
      exact zAH (zAF (⟨rfl,(zAA hX [0] 4 rfl rfl wS wO)⟩))
   ·obtain rfl:=Option.some.inj hr
    exact zAH (zAF (⟨rfl,(zAA hX [0] 4 rfl rfl wS wO)⟩))
theorem g21_runs {p0:List Int}{p1:List Int}{r:Bool}(hr:g21 p0 p1=some r) : zBb Tryz.prog 21 [.sl .i p0,.sl .i p1] [.bool r]:=by
 refine zAW Tryz.func21 Tryz.ntmps21 rfl (rs:=[.tmp 4]) rfl rfl fun w0 X hX=>?_
 refine sq<|rg<|V va<|nl<|an<|sq<|sq<|rg<|V vm<|V vnl<|V vm<|V vnl<|V vne<|nl<|an<|?_
 refine cnd (fun hc1 hr=>?_) (fun hc1 hr=>?_)
 ·refine sq<|rg<|V va<|?_
  obtain rfl:=Option.some.inj hr
  exact nl<|an<|cr<|zAC (zAk (l':=[(4,.bool false)]) (zAA hX [] 4 rfl rfl wS trivial) rfl ⟨rfl,trivial⟩)
 ·obtain ⟨o4,e5,hr⟩:=zA hr
  refine sk<|an<|sq<|sq<|rg<|V vm<|V vnl<|V vm<|nl<|an<|bl<|?_
  refine zAb (t:=0) rfl (fun hl=>?_)
  refine zAI (List.length p0 : Int) (g21_b0 p0 p1) (fun p=>match p with | (i2,())=>(⟨[(0,.sl .i p0),(1,.sl .i p1),(4,.bool false),(12,.i (List.length p0 : Int)),(13,.i i2)],[],0⟩ : AS)) (fun o e st=>match o with | .inl ()=>e=.exit 0∧Wk X st ⟨[(4,.bool false)],[],0⟩ | .inr ()=>e=.ret∧Wk X st ⟨[(4,.bool false)],[],0⟩) (zAf hl) e5 (by exact zAA hX [] 4 rfl rfl wS trivial) ?_ ?_
  ·intro e st hx
   rcases o4 with _ | _
   ·obtain ⟨rfl,hw⟩:=hx
    refine bh<|an<|(zAY hw)<|sq<|rg<|V va<|?_
    obtain rfl:=Option.some.inj hr
    exact nl<|an<|cr<|zAk (l':=[(4,.bool true)]) (zAA hX [] 4 rfl rfl wS trivial) rfl ⟨rfl,trivial⟩
   ·obtain ⟨rfl,hw⟩:=hx
    obtain rfl:=Option.some.inj hr
    exact zAE (zAC (zAk (l':=[(4,.bool false)]) (Wk.trans hw (zAA hX [] 4 rfl rfl wS trivial)) rfl ⟨rfl,trivial⟩))
  ·rintro i2 _ o ho
   refine sq<|rg<|V vls<|nl<|an<|sq<|?_
   refine zAO (b:=decide (i2 < (List.length p0 : Int))) rfl (fun hc6=>?_) (fun hc6=>?_)
   ·obtain ⟨q,hr,rfl⟩:=zA7 hc6 ho
    obtain ⟨x7,e8,hr⟩:=zA hr
    obtain ⟨x9,e10,hr⟩:=zA hr
    refine sk<|an<|sq<|bl<|sq<|rg<|V vm<|V va<|nl<|an<|sq<|?_
    refine zBE mixed [0,1,4,12,13,5] [(true,.sl .i p0),(true,.i i2),(true,.rp [.i x7]),(true,.i x7),(true,.sl .i p1),(true,.i i2),(true,.rp [.i x9]),(true,.i x9),(true,.bool (!decide (x7=x9)))] [[],[],[0,1],[2],[],[],[4,5],[6],[3,7]] [8] rfl rfl rfl rfl rfl ⟨?_,?_,?_,?_,?_,?_,?_,?_,?_,trivial⟩ (zAD ⟨rfl,trivial⟩) ?_
    ·exact oB wm
    ·exact oB wm
    ·exact zAr rfl (fun hg=>zAD ⟨rfl,rfl,trivial⟩) (fun hg=>zAQ (t:=.i) (e:=x7) (undX 47 rfl) (szX 3 rfl) rfl rfl e8)
    ·exact oB wlr
    ·exact oB wm
    ·exact oB wm
    ·exact zAr rfl (fun hg=>zAD ⟨rfl,rfl,trivial⟩) (fun hg=>zAQ (t:=.i) (e:=x9) (undX 47 rfl) (szX 3 rfl) rfl rfl e10)
    ·exact oB wlr
    ·exact oB wne
    refine an<|?_
    refine cnd (fun hc11 hr=>?_) (fun hc11 hr=>?_)
    ·refine sq<|rg<|V va<|?_
     obtain rfl:=Option.some.inj hr
     exact nl<|an<|cr<|zAE (zAC (⟨rfl,(zAA hX [] 4 rfl rfl wS trivial)⟩))
    ·refine sk<|bn<|an<|rg<|V vad<|V vm<|?_
     obtain rfl:=Option.some.inj hr
     exact zAJ ((zAA hX [] 4 rfl rfl wS trivial))
   ·obtain rfl:=zA8 hc6 ho
    exact zAH (zAF (⟨rfl,(zAA hX [] 4 rfl rfl wS trivial)⟩))
theorem g36_runs {p0:ZQ}{p1:Int}{p2:ZN}{r:(ZB)×(Int×Int)×Int}(hr:g36 p0 p1 p2=some r) : zBb Tryz.prog 36 [.rp [.sl Y4 p0.1,.i p0.2],.i p1,.sl Y1 p2] [.agg [.str r.1.1.1,.str r.1.1.2,.str r.1.2.1,.i r.1.2.2.1,.bool r.1.2.2.2],.agg [.i r.2.1.1,.i r.2.1.2],.i r.2.2]:=by
 refine zAW Tryz.func36 Tryz.ntmps36 rfl (rs:=[.cell 6 36,.cell 7 38,.tmp 8]) rfl rfl fun w0 X hX=>?_
 obtain ⟨x1,e2,hr⟩:=zA hr
 refine sq<|rg<|O oa<|O oa<|V va<|nl<|an<|sq<|sq<|rg<|V vm<|V vm<|V vm<|?_
 refine V (zAV (g65_runs e2).x ent65 rfl rfl)<|V va<|nl<|an<|sq<|rg<|V vm<|V vne<|nl<|an<|?_
 refine cnd (fun hc3 hr=>?_) (fun hc3 hr=>?_)
 ·refine sq<|rg<|V (zAs (qs:=[]) (cs:=[.str ([] : Str),.str ([] : Str),.str ([] : Str),.i 0,.bool false]) bt36 rfl rfl rfl)<|?_
  refine V (zAs (qs:=[]) (cs:=[.i 0,.i 0]) bt38 rfl rfl rfl)<|V vm<|O os<|O os<|V va<|?_
  obtain rfl:=Option.some.inj hr
  exact nl<|an<|cr<|zAC (zAk (l':=[(6,.rp [.str ([] : Str),.str ([] : Str),.str ([] : Str),.i 0,.bool false]),(7,.rp [.i 0,.i 0]),(8,.i x1)]) (zAA hX [] 4 rfl rfl wS trivial) rfl ⟨(.inr ⟨_,5,rfl,(tsX 36 rfl),rfl,rfl⟩),(.inr ⟨_,2,rfl,(tsX 38 rfl),rfl,rfl⟩),rfl,trivial⟩)
 ·obtain ⟨x4,e5,hr⟩:=zA hr
  refine sk<|an<|sq<|rg<|V vm<|V vm<|V vm<|?_
  refine V (zAV (g61_runs e5).x ent61 rfl rfl)<|V vm<|V vx<|V vx<|V vx<|O oa<|V va<|O os<|V va<|nl<|an<|sq<|sq<|rg<|V vm<|V vne<|nl<|an<|?_
  refine cnd (fun hc6 hr=>?_) (fun hc6 hr=>?_)
  ·refine sq<|?_
   let c7 : Nat×AV:=(0,.rp [.sl Y4 p0.1,.i p0.2])
   let c8 : Nat×AV:=(2,.sl Y1 p2)
   let c9 : Nat×AV:=(6,.ptr 0 0)
   let c10 : Nat×AV:=(7,.ptr 1 0)
   let c11 : Nat×AV:=(8,.i 0)
   let c12 : Nat×AV:=(11,.ptr 2 0)
   let c13 : Nat×AV:=(10,.pd Y4 x4.1)
   let c14 : Nat×AV:=(12,.i x4.2.2)
   let c15 : Nat×AO:=(0,.var 36 [.str ([] : Str),.str ([] : Str),.str ([] : Str),.i 0,.bool false])
   let c16 : Nat×AO:=(1,.var 38 [.i 0,.i 0])
   let c17 : Nat×AO:=(2,.var 38 [.i x4.2.1.1,.i x4.2.1.2])
   let c18 : Nat×AV:=(34,.agg [.str ([] : Str),.str ([] : Str),.str ([] : Str),.i 0,.bool false])
   let c19 : Nat×AV:=(35,.agg [.i x4.2.1.1,.i x4.2.1.2])
   let c20 : Nat×AV:=(36,.i x4.2.2)
   let c21 : Nat×AO:=(1,.var 38 [.i x4.2.1.1,.i x4.2.1.2])
   refine awc_drawS mixed (([dF,dF,dF,dF,dF,dF],⟨[c7,c8,c9,c10,c11,c12,c13,c14],[c15,c16,c17],3⟩,[0,1,2])::([dT,dF,dF,dF,dF,dF],⟨[c7,c8,c9,c10,c11,c12,c13,c14,c18],[c15,c16,c17],3⟩,[1,2,3])::([dF,dT,dF,dF,dF,dF],⟨[c7,c8,c9,c10,c11,c12,c13,c14,c19],[c15,c16,c17],3⟩,[0,2])::([dF,dF,dT,dF,dF,dF],⟨[c7,c8,c9,c10,c11,c12,c13,c14,c20],[c15,c16,c17],3⟩,[0,1])::([dT,dT,dF,dF,dF,dF],⟨[c7,c8,c9,c10,c11,c12,c13,c14,c18,c19],[c15,c16,c17],3⟩,[2,3])::([dT,dF,dT,dF,dF,dF],⟨[c7,c8,c9,c10,c11,c12,c13,c14,c18,c20],[c15,c16,c17],3⟩,[1,3])::([dT,dF,dF,dT,dF,dF],⟨[c7,c8,c9,c10,c11,c12,c13,c14,c18],[c15,c16,c17],3⟩,[1,2])::([dF,dT,dT,dF,dF,dF],⟨[c7,c8,c9,c10,c11,c12,c13,c14,c19,c20],[c15,c16,c17],3⟩,[0])::([dT,dT,dT,dF,dF,dF],⟨[c7,c8,c9,c10,c11,c12,c13,c14,c18,c19,c20],[c15,c16,c17],3⟩,[3])::([dT,dT,dF,dT,dF,dF],⟨[c7,c8,c9,c10,c11,c12,c13,c14,c18,c19],[c15,c16,c17],3⟩,[2,4])::([dT,dF,dT,dT,dF,dF],⟨[c7,c8,c9,c10,c11,c12,c13,c14,c18,c20],[c15,c16,c17],3⟩,[1])::([dT,dT,dT,dT,dF,dF],⟨[c7,c8,c9,c10,c11,c12,c13,c14,c18,c19,c20],[c15,c16,c17],3⟩,[4])::([dT,dT,dF,dT,dT,dF],⟨[c7,c8,c9,c10,c11,c12,c13,c14,c18,c19],[c15,c21,c17],3⟩,[2])::([dT,dT,dT,dT,dT,dF],⟨[c7,c8,c9,c10,c11,c12,c13,c14,c18,c19,c20],[c15,c21,c17],3⟩,[5])::([dT,dT,dT,dT,dT,dT],⟨[c7,c8,c9,c10,(8,.i x4.2.2),c12,c13,c14,c18,c19,c20],[c15,c21,c17],3⟩,[])::[]) ⟨[c7,c8,c9,c10,c11,c12,c13,c14],[c15,c16,c17],3⟩ ⟨[c7,c8,c9,c10,(8,.i x4.2.2),c12,c13,c14,c18,c19,c20],[c15,c21,c17],3⟩ (zAA hX [0,1,2] 4 rfl rfl wS wO) rfl rfl rfl rfl rfl ?_ ?_
   ·refine zDs (zDr rfl rfl (aV (zAs (qs:=[]) (cs:=[.str ([] : Str),.str ([] : Str),.str ([] : Str),.i 0,.bool false]) bt36 rfl rfl rfl) hX [0,1,2])<|zDr rfl rfl (aV (zDG (tsX 38 rfl) rfl rfl rfl rfl) hX [0,1,2])<|zDr rfl rfl (aV (zAg rfl) hX [0,1,2]) zDt)<|zDs (zDr rfl rfl (aV (zDG (tsX 38 rfl) rfl rfl rfl rfl) hX [0,1,2])<|zDr rfl rfl (aV (zAg rfl) hX [0,1,2])<|zDr rfl rfl (zDI (szX 36 rfl) rfl rfl rfl rfl rfl rfl rfl (wkA hX [0,1,2])) zDt)<|zDs (zDr rfl rfl (aV (zAs (qs:=[]) (cs:=[.str ([] : Str),.str ([] : Str),.str ([] : Str),.i 0,.bool false]) bt36 rfl rfl rfl) hX [0,1,2])<|zDr rfl rfl (aV (zAg rfl) hX [0,1,2]) zDt)<|zDs (zDr rfl rfl (aV (zAs (qs:=[]) (cs:=[.str ([] : Str),.str ([] : Str),.str ([] : Str),.i 0,.bool false]) bt36 rfl rfl rfl) hX [0,1,2])<|zDr rfl rfl (aV (zDG (tsX 38 rfl) rfl rfl rfl rfl) hX [0,1,2]) zDt)<|zDs (zDr rfl rfl (aV (zAg rfl) hX [0,1,2])<|zDr rfl rfl (zDI (szX 36 rfl) rfl rfl rfl rfl rfl rfl rfl (wkA hX [0,1,2])) zDt)<|zDs (zDr rfl rfl (aV (zDG (tsX 38 rfl) rfl rfl rfl rfl) hX [0,1,2])<|zDr rfl rfl (zDI (szX 36 rfl) rfl rfl rfl rfl rfl rfl rfl (wkA hX [0,1,2])) zDt)<|zDs (zDr rfl rfl (aV (zDG (tsX 38 rfl) rfl rfl rfl rfl) hX [0,1,2])<|zDr rfl rfl (aV (zAg rfl) hX [0,1,2]) zDt)<|zDs (zDr rfl rfl (aV (zAs (qs:=[]) (cs:=[.str ([] : Str),.str ([] : Str),.str ([] : Str),.i 0,.bool false]) bt36 rfl rfl rfl) hX [0,1,2]) zDt)<|zDs (zDr rfl rfl (zDI (szX 36 rfl) rfl rfl rfl rfl rfl rfl rfl (wkA hX [0,1,2])) zDt)<|zDs (zDr rfl rfl (aV (zAg rfl) hX [0,1,2])<|zDr rfl rfl (zDI (szX 38 rfl) rfl rfl rfl rfl rfl rfl rfl (wkA hX [0,1,2])) zDt)<|zDs (zDr rfl rfl (aV (zDG (tsX 38 rfl) rfl rfl rfl rfl) hX [0,1,2]) zDt)<|zDs (zDr rfl rfl (zDI (szX 38 rfl) rfl rfl rfl rfl rfl rfl rfl (wkA hX [0,1,2])) zDt)<|zDs (zDr rfl rfl (aV (zAg rfl) hX [0,1,2]) zDt)<|zDs (zDr rfl rfl (aV (zDJ rfl) hX [0,1,2]) zDt)<|zDs zDt<|?_
    exact obd_n
   obtain rfl:=Option.some.inj hr
   exact zAZ (zAw (zAC (zAk (l':=[(6,.rp [.str ([] : Str),.str ([] : Str),.str ([] : Str),.i 0,.bool false]),(7,.rp [.i x4.2.1.1,.i x4.2.1.2]),(8,.i x4.2.2)]) (zAA hX [] 4 rfl rfl wS trivial) rfl ⟨(.inr ⟨_,5,rfl,(tsX 36 rfl),rfl,rfl⟩),(.inr ⟨_,2,rfl,(tsX 38 rfl),rfl,rfl⟩),rfl,trivial⟩)))
  ·obtain ⟨x22,e23,hr⟩:=zA hr
   obtain ⟨x24,e25,hr⟩:=zA hr
   refine sk<|an<|sq<|rg<|V vm<|V vm<|V vm<|V vnl<|V vsu<|?_
   refine V (zAQ (t:=Y1) (e:=x22) (undX 23 rfl) (szX 34 rfl) rfl rfl e23)<|V vlR<|?_
   refine V (zAV (g62_runs e25).x ent62 rfl rfl)<|V vm<|V vx<|V vx<|V va<|V va<|nl<|an<|sq<|sq<|?_
   obtain ⟨h26,hr⟩:=zAN hr
   obtain ⟨h27,hr⟩:=zAN hr
   obtain ⟨h28,hr⟩:=zAN hr
   obtain ⟨h29,hr⟩:=zAN hr
   obtain ⟨h30,hr⟩:=zAN hr
   refine zAa [0,2,6,7,8,10,13,14] [(true,.bool x24.2),(true,.bool (!x24.2)),(true,.bool (!x24.2)),(!(!x24.2),.pd Y4 x4.1),(!(!x24.2),.rp [.i ((((x4.1).getD default)).1),.sl Y3 ((((x4.1).getD default)).2)]),(!(!x24.2),.rp [.sl Y3 ((((x4.1).getD default)).2)]),(!(!x24.2),.sl Y3 ((((x4.1).getD default)).2)),(!(!x24.2),.i x24.1),(!(!x24.2),.rp [.str (((((ix ((((x4.1).getD default)).2) x24.1).getD default)).1).1),.str (((((ix ((((x4.1).getD default)).2) x24.1).getD default)).1).2),.str (((((ix ((((x4.1).getD default)).2) x24.1).getD default)).2).1),.i ((((((ix ((((x4.1).getD default)).2) x24.1).getD default)).2).2).1),.bool ((((((ix ((((x4.1).getD default)).2) x24.1).getD default)).2).2).2)]),(!(!x24.2),.rp [.bool ((((((ix ((((x4.1).getD default)).2) x24.1).getD default)).2).2).2)]),(!(!x24.2),.bool ((((((ix ((((x4.1).getD default)).2) x24.1).getD default)).2).2).2)),(!(!x24.2),.bool ((((((ix ((((x4.1).getD default)).2) x24.1).getD default)).2).2).2)),((!(!x24.2))&&((((((ix ((((x4.1).getD default)).2) x24.1).getD default)).2).2).2),.rp [.sl Y4 p0.1,.i p0.2]),((!(!x24.2))&&((((((ix ((((x4.1).getD default)).2) x24.1).getD default)).2).2).2),.pd Y4 x4.1),((!(!x24.2))&&((((((ix ((((x4.1).getD default)).2) x24.1).getD default)).2).2).2),.rp [.i ((((x4.1).getD default)).1),.sl Y3 ((((x4.1).getD default)).2)]),((!(!x24.2))&&((((((ix ((((x4.1).getD default)).2) x24.1).getD default)).2).2).2),.rp [.sl Y3 ((((x4.1).getD default)).2)]),((!(!x24.2))&&((((((ix ((((x4.1).getD default)).2) x24.1).getD default)).2).2).2),.sl Y3 ((((x4.1).getD default)).2)),((!(!x24.2))&&((((((ix ((((x4.1).getD default)).2) x24.1).getD default)).2).2).2),.i x24.1),((!(!x24.2))&&((((((ix ((((x4.1).getD default)).2) x24.1).getD default)).2).2).2),.rp [.str (((((ix ((((x4.1).getD default)).2) x24.1).getD default)).1).1),.str (((((ix ((((x4.1).getD default)).2) x24.1).getD default)).1).2),.str (((((ix ((((x4.1).getD default)).2) x24.1).getD default)).2).1),.i ((((((ix ((((x4.1).getD default)).2) x24.1).getD default)).2).2).1),.bool ((((((ix ((((x4.1).getD default)).2) x24.1).getD default)).2).2).2)]),((!(!x24.2))&&((((((ix ((((x4.1).getD default)).2) x24.1).getD default)).2).2).2),.rp [.i ((((((ix ((((x4.1).getD default)).2) x24.1).getD default)).2).2).1),.bool ((((((ix ((((x4.1).getD default)).2) x24.1).getD default)).2).2).2)]),((!(!x24.2))&&((((((ix ((((x4.1).getD default)).2) x24.1).getD default)).2).2).2),.i ((((((ix ((((x4.1).getD default)).2) x24.1).getD default)).2).2).1)),((!(!x24.2))&&((((((ix ((((x4.1).getD default)).2) x24.1).getD default)).2).2).2),.pd Y4 ((g51 p0 ((((((ix ((((x4.1).getD default)).2) x24.1).getD default)).2).2).1)).getD default)),((!(!x24.2))&&((((((ix ((((x4.1).getD default)).2) x24.1).getD default)).2).2).2),.bool (Option.isNone ((g51 p0 ((((((ix ((((x4.1).getD default)).2) x24.1).getD default)).2).2).1)).getD default))),(!(!x24.2),.bool (((((((ix ((((x4.1).getD default)).2) x24.1).getD default)).2).2).2)&&(Option.isNone ((g51 p0 ((((((ix ((((x4.1).getD default)).2) x24.1).getD default)).2).2).1)).getD default)))),(true,.bool ((!x24.2)||(((((((ix ((((x4.1).getD default)).2) x24.1).getD default)).2).2).2)&&(Option.isNone ((g51 p0 ((((((ix ((((x4.1).getD default)).2) x24.1).getD default)).2).2).1)).getD default)))))] [[],[0],[1],[2],[3,2],[4,2],[5,2],[2],[6,7,2],[8,2],[9,2],[10,2],[11],[11],[13,11],[14,11],[15,11],[11],[16,17,11],[18,11],[19,11],[12,20,11],[21,11],[22,11,2],[23,2]] [24] rfl rfl rfl rfl rfl ⟨?_,?_,?_,?_,?_,?_,?_,?_,?_,?_,?_,?_,?_,?_,?_,?_,?_,?_,?_,?_,?_,?_,?_,?_,?_,trivial⟩ (zAD ⟨rfl,trivial⟩) ?_
   ·exact oB wm
   ·exact oB wno
   ·exact oB wm
   ·exact oB wm
   ·exact zAr ⟨rfl,rfl,rfl,_,rfl,rfl⟩ (fun hg=>zAD ⟨hg,rfl,trivial⟩) (fun hg=>zCJ (t:=Y4) (y:=((x4.1).getD default)) rfl (zAz h26 hg))
   ·exact oB wfr
   ·exact oB wlr
   ·exact oB wm
   ·exact zAr ⟨rfl,rfl,rfl,_,rfl,rfl⟩ (fun hg=>zAD ⟨hg,hg,rfl,trivial⟩) (fun hg=>zAQ (t:=Y3) (e:=((ix ((((x4.1).getD default)).2) x24.1).getD default)) (undX 65 rfl) (szX 36 rfl) rfl rfl (zAz h27 hg))
   ·exact oB wfr
   ·exact oB wlr
   ·exact oB wm
   ·exact oB wm
   ·exact oB wm
   ·exact zAr ⟨rfl,rfl,rfl,_,rfl,rfl⟩ (fun hg=>zAD ⟨hg,(zBO hg),trivial⟩) (fun hg=>zCJ (t:=Y4) (y:=((x4.1).getD default)) rfl (zAz h28 hg))
   ·exact oB wfr
   ·exact oB wlr
   ·exact oB wm
   ·exact zAr ⟨rfl,rfl,rfl,_,rfl,rfl⟩ (fun hg=>zAD ⟨hg,hg,(zBO hg),trivial⟩) (fun hg=>zAQ (t:=Y3) (e:=((ix ((((x4.1).getD default)).2) x24.1).getD default)) (undX 65 rfl) (szX 36 rfl) rfl rfl (zAz h29 hg))
   ·exact oB wfr
   ·exact oB wlr
   ·exact zAr ⟨rfl,rfl,rfl,_,rfl,rfl⟩ (fun hg=>zAD ⟨hg,hg,(zBO hg),trivial⟩) (fun hg=>zAV (zDa (zAz h30 hg)).x ent51 rfl rfl)
   ·exact zAr ⟨rfl,rfl,rfl,_,rfl,rfl⟩ (fun hg=>zAD ⟨hg,(zBO hg),trivial⟩) (fun hg=>zDW (t:=Y4) (undX 108 rfl) rfl rfl)
   ·exact zBC (b:=true) (p:=(((((ix ((((x4.1).getD default)).2) x24.1).getD default)).2).2).2) (q:=(Option.isNone ((g51 p0 ((((((ix ((((x4.1).getD default)).2) x24.1).getD default)).2).2).1)).getD default))) ⟨rfl,rfl,rfl,_,rfl,rfl⟩ rfl rfl (fun hg=>zAD ⟨hg,rfl,trivial⟩) rfl rfl rfl rfl rfl
   ·exact zBr
   refine an<|?_
   refine cnd (fun hc31 hr=>?_) (fun hc31 hr=>?_)
   ·refine sq<|rg<|V (zAs (qs:=[]) (cs:=[.str ([] : Str),.str ([] : Str),.str ([] : Str),.i 0,.bool false]) bt36 rfl rfl rfl)<|V vm<|V vnl<|V vsu<|?_
    refine V (zAs (qs:=[(0,[.i (w64 ((List.length p2 : Int) - 1))]),(1,[.i 1])]) (cs:=[.i (w64 ((List.length p2 : Int) - 1)),.i 1]) bt38 rfl rfl rfl)<|O os<|O os<|V va<|?_
    obtain rfl:=Option.some.inj hr
    exact nl<|an<|cr<|zAC (zAk (l':=[(6,.rp [.str ([] : Str),.str ([] : Str),.str ([] : Str),.i 0,.bool false]),(7,.rp [.i (w64 ((List.length p2 : Int) - 1)),.i 1]),(8,.i 8)]) (zAA hX [] 4 rfl rfl wS trivial) rfl ⟨(.inr ⟨_,5,rfl,(tsX 36 rfl),rfl,rfl⟩),(.inr ⟨_,2,rfl,(tsX 38 rfl),rfl,rfl⟩),rfl,trivial⟩)
   ·obtain ⟨x32,e33,hr⟩:=zA hr
    obtain ⟨x34,e35,hr⟩:=zA hr
    refine sk<|an<|sq<|rg<|V vm<|?_
    refine V (zCJ (t:=Y4) (y:=x32) rfl e33)<|V vfr<|V vlr<|V vm<|?_
    refine V (zAQ (t:=Y3) (e:=x34) (undX 65 rfl) (szX 36 rfl) rfl rfl e35)<|V vlR<|?_
    refine V (zAs (qs:=[]) (cs:=[.i 0,.i 0]) bt38 rfl rfl rfl)<|O os<|O os<|V va<|?_
    obtain rfl:=Option.some.inj hr
    exact nl<|an<|cr<|zAk (l':=[(6,.rp [.str x34.1.1,.str x34.1.2,.str x34.2.1,.i x34.2.2.1,.bool x34.2.2.2]),(7,.rp [.i 0,.i 0]),(8,.i 0)]) (zAA hX [] 4 rfl rfl wS trivial) rfl ⟨(.inr ⟨_,5,rfl,(tsX 36 rfl),rfl,rfl⟩),(.inr ⟨_,2,rfl,(tsX 38 rfl),rfl,rfl⟩),rfl,trivial⟩
theorem g10_runs {p0_0:ZP}{p1_0:ZQ}{p2:ZX}{r:Bool×(ZP)×(ZQ)}(hr:g10 p0_0 p1_0 p2=some r) : Runs Tryz.prog 10 [.ptr 0 0,.ptr 1 0,.agg [.i p2.1,.i p2.2.1,.i p2.2.2.1,.i p2.2.2.2.1,.sl Y1 p2.2.2.2.2.1,.str p2.2.2.2.2.2]] [.tr E64 (some p0_0),.tr E70 (some p1_0)] (fun q Hq=>q=[.bool r.1]∧Hq=[.tr E64 (some r.2.1),.tr E70 (some r.2.2)]):=by
 refine zAW Tryz.func10 Tryz.ntmps10 rfl (rs:=[.tmp 6]) rfl rfl fun w0 X hX=>?_
 obtain ⟨o14,e15,hr⟩:=zA hr
 refine sq<|rg<|O ob<|V va<|nl<|an<|sq<|rg<|O oa<|O oa<|nl<|an<|sq<|rg<|V va<|V va<|nl<|an<|sq<|rg<|V vfp<|V vlp<|?_
 refine V (zAs (qs:=[(1,[.str p2.2.2.2.2.2])]) (cs:=[.str ([] : Str),.str ([] : Str),.str p2.2.2.2.2.2,.i 0,.bool false]) bt36 rfl rfl rfl)<|O oa<|O os<|nl<|an<|sq<|rg<|V vfp<|V vlp<|?_
 refine V (zAs (qs:=[(2,[.i p2.2.2.1]),(3,[.bool true])]) (cs:=[.str ([] : Str),.str ([] : Str),.str ([] : Str),.i p2.2.2.1,.bool true]) bt36 rfl rfl rfl)<|O oa<|O os<|nl<|an<|?_
 refine zAy (S:=Int×Int×(ZP)×(ZQ)×Int×Int×Int×Int) (R:=Bool×(ZP)×(ZQ)) (fun s=>match s with | (s3,s4,s5,s6,s7,s8,s9,s10)=>(⟨[(6,.bool false),(7,.ptr 2 0),(8,.ptr 3 0),(9,.i s3),(10,.i s4)],[(0,.tr E64 (some s5)),(1,.tr E70 (some s6)),(2,.var 38 [.i s7,.i s8]),(3,.var 38 [.i s9,.i s10])],4⟩ : AS)) (fun r e st=>match r with | (s11,s12,s13)=>e=.ret∧Wk X st ⟨[(6,.bool s11)],[(0,.tr E64 (some s12)),(1,.tr E70 (some s13))],2⟩) e15 (fun hr=>?_) ?_ ?_
 ·obtain ⟨o17,e18,hr⟩:=zA hr
  refine sq<|rg<|V vfp<|V vlp<|nl<|an<|bl<|?_
  refine zAy (S:=Bool) (R:=Unit) (fun s=>match s with | s16=>(⟨[(0,.ptr 0 0),(1,.ptr 1 0),(5,.ptr 2 0),(6,.bool false),(7,.ptr 3 0),(8,.ptr 4 0),(9,.i 0),(10,.i 0),(11,.ptr 5 0),(12,.ptr 6 0),(46,.i p2.1),(80,.bool s16)],[(0,.tr E64 (some p0_0)),(1,.tr E70 (some p1_0)),(2,.var 26 [.i p2.1,.i p2.2.1,.i p2.2.2.1,.i p2.2.2.2.1,.sl Y1 p2.2.2.2.2.1,.str p2.2.2.2.2.2]),(3,.var 38 [.i 0,.i 0]),(4,.var 38 [.i 0,.i 0]),(5,.var 36 [.str ([] : Str),.str ([] : Str),.str p2.2.2.2.2.2,.i 0,.bool false]),(6,.var 36 [.str ([] : Str),.str ([] : Str),.str ([] : Str),.i p2.2.2.1,.bool true])],7⟩ : AS)) (fun _ _ _=>False) e18 (fun hr=>?_) ?_ ?_
  ·refine sq<|rg<|V veq<|V va<|nl<|an<|?_
   refine cnd (fun hc19 hr=>?_) (fun hc19 hr=>?_)
   ·obtain rfl:=Option.some.inj hr
    exact zAv ((zAA hX [0,1,2,3,4,5,6] 4 rfl rfl wS wO))
   ·refine rg<|V veq<|V va<|?_
    obtain rfl:=Option.some.inj hr
    exact zAJ ((zAA hX [0,1,2,3,4,5,6] 4 rfl rfl wS wO))
  ·rintro s16 rfl
   refine cnd (fun hc20 hr=>?_) (fun hc20 hr=>?_)
   ·obtain ⟨x21,e22,hr⟩:=zA hr
    refine sq<|rg<|V vm<|?_
    refine zAK (zAP (σ:=[0]) (as':=[.ptr 0 0]) (g24_runs e22).x ent24 rfl ⟨cv0,trivial⟩ rfl rfl rfl ?_)
    obtain ⟨x23,e24,hr⟩:=zA hr
    refine V vm<|V vx<|V vx<|V va<|V va<|nl<|an<|sq<|rg<|V vm<|?_
    refine zAK (zAP (σ:=[1]) (as':=[.ptr 1 0]) (g25_runs e24).x ent25 rfl ⟨cv0,trivial⟩ rfl rfl rfl ?_)
    refine V vm<|V vx<|V vx<|V va<|V va<|nl<|an<|sq<|?_
    refine zAa [7,8,9,10,13,14,15,16] [(true,.i x21.1),(true,.i x23.1),(true,.bool (decide (x21.1=x23.1))),(true,.bool (decide (x21.1=x23.1))),(decide (x21.1=x23.1),.i x21.2.1),(decide (x21.1=x23.1),.i x23.2.1),(decide (x21.1=x23.1),.bool (decide (x21.2.1=x23.2.1))),(true,.bool ((decide (x21.1=x23.1))&&(decide (x21.2.1=x23.2.1)))),(true,.bool ((decide (x21.1=x23.1))&&(decide (x21.2.1=x23.2.1))))] [[],[],[0,1],[2],[3],[3],[4,5,3],[6,3],[7]] [8] rfl rfl rfl rfl rfl ⟨?_,?_,?_,?_,?_,?_,?_,?_,?_,trivial⟩ (zAD ⟨rfl,trivial⟩) ?_
    ·exact oB wm
    ·exact oB wm
    ·exact oB weq
    ·exact oB wm
    ·exact oB wm
    ·exact oB wm
    ·exact oB weq
    ·exact zBe
    ·exact oB wa
    obtain rfl:=Option.some.inj hr
    exact zAZ (zAw (zAE (⟨rfl,(zAA hX [0,1] 4 rfl rfl wS wO)⟩)))
   ·obtain ⟨o26,e27,hr⟩:=zA hr
    refine zAy (S:=Bool) (R:=Unit) (fun s=>match s with | s25=>(⟨[(0,.ptr 0 0),(1,.ptr 1 0),(5,.ptr 2 0),(6,.bool false),(7,.ptr 3 0),(8,.ptr 4 0),(9,.i 0),(10,.i 0),(11,.ptr 5 0),(12,.ptr 6 0),(46,.i p2.1),(101,.bool s25)],[(0,.tr E64 (some p0_0)),(1,.tr E70 (some p1_0)),(2,.var 26 [.i p2.1,.i p2.2.1,.i p2.2.2.1,.i p2.2.2.2.1,.sl Y1 p2.2.2.2.2.1,.str p2.2.2.2.2.2]),(3,.var 38 [.i 0,.i 0]),(4,.var 38 [.i 0,.i 0]),(5,.var 36 [.str ([] : Str),.str ([] : Str),.str p2.2.2.2.2.2,.i 0,.bool false]),(6,.var 36 [.str ([] : Str),.str ([] : Str),.str ([] : Str),.i p2.2.2.1,.bool true])],7⟩ : AS)) (fun _ _ _=>False) e27 (fun hr=>?_) ?_ ?_
    ·refine sq<|rg<|V veq<|V va<|nl<|an<|?_
     refine cnd (fun hc28 hr=>?_) (fun hc28 hr=>?_)
     ·obtain rfl:=Option.some.inj hr
      exact zAv ((zAA hX [0,1,2,3,4,5,6] 4 rfl rfl wS wO))
     ·refine rg<|V veq<|V va<|?_
      obtain rfl:=Option.some.inj hr
      exact zAJ ((zAA hX [0,1,2,3,4,5,6] 4 rfl rfl wS wO))
    ·rintro s25 rfl
     refine cnd (fun hc29 hr=>?_) (fun hc29 hr=>?_)
     ·obtain ⟨x30,e31,hr⟩:=zA hr
      refine sq<|rg<|V vm<|V vfp<|V vlp<|V vfp<|V vlp<|V vfp<|V vlp<|?_
      refine zAK (zAP (σ:=[0]) (as':=[.ptr 0 0,.i p2.2.1,.sl Y1 p2.2.2.2.2.1,.str p2.2.2.2.2.2]) (g12_runs e31).x ent12 rfl ⟨cv0,cv0,cv0,cv0,trivial⟩ rfl rfl rfl ?_)
      obtain ⟨x32,e33,hr⟩:=zA hr
      refine V vm<|V vx<|V vx<|O os<|V va<|nl<|an<|rg<|V vm<|V vfp<|V vlp<|V vfp<|V vlp<|V vlP<|?_
      refine zAK (zAP (σ:=[1]) (as':=[.ptr 1 0,.i p2.2.1,.sl Y1 p2.2.2.2.2.1,.agg [.str ([] : Str),.str ([] : Str),.str p2.2.2.2.2.2,.i 0,.bool false],.bool false]) (g26_runs e33).x ent26 rfl ⟨cv0,cv0,cv0,cv0,cv0,trivial⟩ rfl rfl rfl ?_)
      refine V vm<|V vx<|V vx<|O os<|V va<|?_
      obtain rfl:=Option.some.inj hr
      exact zAJ (zAS ((zAA hX [0,1,3,4] 4 rfl rfl wS wO)))
     ·obtain ⟨o35,e36,hr⟩:=zA hr
      refine zAy (S:=Bool) (R:=Unit) (fun s=>match s with | s34=>(⟨[(0,.ptr 0 0),(1,.ptr 1 0),(5,.ptr 2 0),(6,.bool false),(7,.ptr 3 0),(8,.ptr 4 0),(9,.i 0),(10,.i 0),(11,.ptr 5 0),(12,.ptr 6 0),(46,.i p2.1),(125,.bool s34)],[(0,.tr E64 (some p0_0)),(1,.tr E70 (some p1_0)),(2,.var 26 [.i p2.1,.i p2.2.1,.i p2.2.2.1,.i p2.2.2.2.1,.sl Y1 p2.2.2.2.2.1,.str p2.2.2.2.2.2]),(3,.var 38 [.i 0,.i 0]),(4,.var 38 [.i 0,.i 0]),(5,.var 36 [.str ([] : Str),.str ([] : Str),.str p2.2.2.2.2.2,.i 0,.bool false]),(6,.var 36 [.str ([] : Str),.str ([] : Str),.str ([] : Str),.i p2.2.2.1,.bool true])],7⟩ : AS)) (fun _ _ _=>False) e36 (fun hr=>?_) ?_ ?_
      ·refine sq<|rg<|V veq<|V va<|nl<|an<|?_
       refine cnd (fun hc37 hr=>?_) (fun hc37 hr=>?_)
       ·obtain rfl:=Option.some.inj hr
        exact zAv ((zAA hX [0,1,2,3,4,5,6] 4 rfl rfl wS wO))
       ·refine rg<|V veq<|V va<|?_
        obtain rfl:=Option.some.inj hr
        exact zAJ ((zAA hX [0,1,2,3,4,5,6] 4 rfl rfl wS wO))
      ·rintro s34 rfl
       refine cnd (fun hc38 hr=>?_) (fun hc38 hr=>?_)
       ·obtain ⟨x39,e40,hr⟩:=zA hr
        refine sq<|rg<|V vm<|V vfp<|V vlp<|V vfp<|V vlp<|V vfp<|V vlp<|?_
        refine zAK (zAP (σ:=[0]) (as':=[.ptr 0 0,.i p2.2.1,.sl Y1 p2.2.2.2.2.1,.i p2.2.2.1]) (g23_runs e40).x ent23 rfl ⟨cv0,cv0,cv0,cv0,trivial⟩ rfl rfl rfl ?_)
        obtain ⟨x41,e42,hr⟩:=zA hr
        refine V vm<|V vx<|V vx<|O os<|V va<|nl<|an<|rg<|V vm<|V vfp<|V vlp<|V vfp<|V vlp<|V vlP<|?_
        refine zAK (zAP (σ:=[1]) (as':=[.ptr 1 0,.i p2.2.1,.sl Y1 p2.2.2.2.2.1,.agg [.str ([] : Str),.str ([] : Str),.str ([] : Str),.i p2.2.2.1,.bool true],.bool false]) (g26_runs e42).x ent26 rfl ⟨cv0,cv0,cv0,cv0,cv0,trivial⟩ rfl rfl rfl ?_)
        refine V vm<|V vx<|V vx<|O os<|V va<|?_
        obtain rfl:=Option.some.inj hr
        exact zAJ (zAS ((zAA hX [0,1,3,4] 4 rfl rfl wS wO)))
       ·refine sq<|rg<|V veq<|V va<|nl<|an<|?_
        refine cnd (fun hc43 hr=>?_) (fun hc43 hr=>?_)
        ·obtain ⟨x44,e45,hr⟩:=zA hr
         refine sq<|rg<|V vm<|V vfp<|V vlp<|V vfp<|V vlp<|V vfp<|V vlp<|?_
         refine zAK (zAP (σ:=[0]) (as':=[.ptr 0 0,.i p2.2.1,.sl Y1 p2.2.2.2.2.1,.str p2.2.2.2.2.2]) (g13_runs e45).x ent13 rfl ⟨cv0,cv0,cv0,cv0,trivial⟩ rfl rfl rfl ?_)
         obtain ⟨x46,e47,hr⟩:=zA hr
         refine V vm<|V vx<|V vx<|O os<|V va<|nl<|an<|rg<|V vm<|V vfp<|V vlp<|V vfp<|V vlp<|V vlP<|?_
         refine zAK (zAP (σ:=[1]) (as':=[.ptr 1 0,.i p2.2.1,.sl Y1 p2.2.2.2.2.1,.agg [.str ([] : Str),.str ([] : Str),.str p2.2.2.2.2.2,.i 0,.bool false],.bool true]) (g26_runs e47).x ent26 rfl ⟨cv0,cv0,cv0,cv0,cv0,trivial⟩ rfl rfl rfl ?_)
         refine V vm<|V vx<|V vx<|O os<|V va<|?_
         obtain rfl:=Option.some.inj hr
         exact zAJ (zAS ((zAA hX [0,1,3,4] 4 rfl rfl wS wO)))
        ·refine sq<|rg<|V veq<|V va<|nl<|an<|?_
         refine cnd (fun hc48 hr=>?_) (fun hc48 hr=>?_)
         ·obtain ⟨x49,e50,hr⟩:=zA hr
          refine sq<|rg<|V vm<|V vfp<|V vlp<|V vfp<|V vlp<|V vfp<|V vlp<|?_
          refine zAK (zAP (σ:=[0]) (as':=[.ptr 0 0,.i p2.2.1,.sl Y1 p2.2.2.2.2.1,.i p2.2.2.1]) (g27_runs e50).x ent27 rfl ⟨cv0,cv0,cv0,cv0,trivial⟩ rfl rfl rfl ?_)
          obtain ⟨x51,e52,hr⟩:=zA hr
          refine V vm<|V vx<|V vx<|O os<|V va<|nl<|an<|rg<|V vm<|V vfp<|V vlp<|V vfp<|V vlp<|V vlP<|?_
          refine zAK (zAP (σ:=[1]) (as':=[.ptr 1 0,.i p2.2.1,.sl Y1 p2.2.2.2.2.1,.agg [.str ([] : Str),.str ([] : Str),.str ([] : Str),.i p2.2.2.1,.bool true],.bool true]) (g26_runs e52).x ent26 rfl ⟨cv0,cv0,cv0,cv0,cv0,trivial⟩ rfl rfl rfl ?_)
          refine V vm<|V vx<|V vx<|O os<|V va<|?_
          obtain rfl:=Option.some.inj hr
          exact zAJ (zAS ((zAA hX [0,1,3,4] 4 rfl rfl wS wO)))
         ·refine sq<|rg<|V veq<|V va<|nl<|an<|?_
          refine cnd (fun hc53 hr=>?_) (fun hc53 hr=>?_)
          ·obtain ⟨x54,e55,hr⟩:=zA hr
           refine sq<|rg<|V vm<|V vfp<|V vlp<|V vfp<|V vlp<|?_
           refine zAK (zAP (σ:=[0]) (as':=[.ptr 0 0,.i p2.2.1,.sl Y1 p2.2.2.2.2.1]) (g28_runs e55).x ent28 rfl ⟨cv0,cv0,cv0,trivial⟩ rfl rfl rfl ?_)
           obtain ⟨x56,e57,hr⟩:=zA hr
           refine V vm<|V vx<|V vx<|V vx<|O oa<|V va<|O os<|V va<|nl<|an<|sq<|rg<|V vm<|V vfp<|V vlp<|V vfp<|V vlp<|?_
           refine zAK (zAP (σ:=[1]) (as':=[.ptr 1 0,.i p2.2.1,.sl Y1 p2.2.2.2.2.1]) (g29_runs e57).x ent29 rfl ⟨cv0,cv0,cv0,trivial⟩ rfl rfl rfl ?_)
           refine V vm<|V vx<|V vx<|V vx<|O oa<|V va<|O os<|V va<|nl<|an<|sq<|?_
           refine zAa [7,8,9,10,18,17,19,21,20,22] [(true,.i x54.1),(true,.i x56.1),(true,.bool (decide (x54.1=x56.1))),(true,.bool (decide (x54.1=x56.1))),(decide (x54.1=x56.1),.agg [.i x54.2.1.1,.i x54.2.1.2]),(decide (x54.1=x56.1),.agg [.i x56.2.1.1,.i x56.2.1.2]),(decide (x54.1=x56.1),.bool ((decide (x54.2.1.1=x56.2.1.1))&&(decide (x54.2.1.2=x56.2.1.2)))),(true,.bool ((decide (x54.1=x56.1))&&((decide (x54.2.1.1=x56.2.1.1))&&(decide (x54.2.1.2=x56.2.1.2))))),(true,.bool ((decide (x54.1=x56.1))&&((decide (x54.2.1.1=x56.2.1.1))&&(decide (x54.2.1.2=x56.2.1.2))))),((decide (x54.1=x56.1))&&((decide (x54.2.1.1=x56.2.1.1))&&(decide (x54.2.1.2=x56.2.1.2))),.i x54.2.2.1),((decide (x54.1=x56.1))&&((decide (x54.2.1.1=x56.2.1.1))&&(decide (x54.2.1.2=x56.2.1.2))),.i x56.2.2.1),((decide (x54.1=x56.1))&&((decide (x54.2.1.1=x56.2.1.1))&&(decide (x54.2.1.2=x56.2.1.2))),.bool (decide (x54.2.2.1=x56.2.2.1))),(true,.bool (((decide (x54.1=x56.1))&&((decide (x54.2.1.1=x56.2.1.1))&&(decide (x54.2.1.2=x56.2.1.2))))&&(decide (x54.2.2.1=x56.2.2.1)))),(true,.bool (((decide (x54.1=x56.1))&&((decide (x54.2.1.1=x56.2.1.1))&&(decide (x54.2.1.2=x56.2.1.2))))&&(decide (x54.2.2.1=x56.2.2.1))))] [[],[],[0,1],[2],[3],[3],[4,5,3],[6,3],[7],[8],[8],[9,10,8],[11,8],[12]] [13] rfl rfl rfl rfl rfl ⟨?_,?_,?_,?_,?_,?_,?_,?_,?_,?_,?_,?_,?_,?_,trivial⟩ (zAD ⟨rfl,trivial⟩) ?_
           ·exact oB wm
           ·exact oB wm
           ·exact oB weq
           ·exact oB wm
           ·exact oB wlP
           ·exact oB wlP
           ·exact zAr ⟨rfl,rfl,rfl,_,rfl,rfl⟩ (fun hg=>zAD ⟨hg,hg,rfl,trivial⟩) (fun hg=>av_eqlA (r:=(decide (x54.2.1.1=x56.2.1.1))&&(decide (x54.2.1.2=x56.2.1.2))) eq38 rfl rfl rfl rfl rfl rfl)
           ·exact zBe
           ·exact oB wm
           ·exact oB wm
           ·exact oB wm
           ·exact oB weq
           ·exact zBe
           ·exact oB wa
           obtain rfl:=Option.some.inj hr
           exact zAZ (zAw (zAE (⟨rfl,(zAA hX [0,1] 4 rfl rfl wS wO)⟩)))
          ·refine sq<|rg<|V veq<|V va<|nl<|an<|?_
           refine cnd (fun hc58 hr=>?_) (fun hc58 hr=>?_)
           ·obtain ⟨x59,e60,hr⟩:=zA hr
            refine sq<|rg<|V vm<|V vfp<|V vlp<|V vfp<|V vlp<|?_
            refine zAK (zAP (σ:=[0]) (as':=[.ptr 0 0,.i p2.2.1,.sl Y1 p2.2.2.2.2.1]) (g14_runs e60).x ent14 rfl ⟨cv0,cv0,cv0,trivial⟩ rfl rfl rfl ?_)
            obtain ⟨x61,e62,hr⟩:=zA hr
            refine V vm<|V vx<|V vx<|O os<|V va<|nl<|an<|rg<|V vm<|V vfp<|V vlp<|V vfp<|V vlp<|?_
            refine zAK (zAP (σ:=[1]) (as':=[.ptr 1 0,.i p2.2.1,.sl Y1 p2.2.2.2.2.1]) (g30_runs e62).x ent30 rfl ⟨cv0,cv0,cv0,trivial⟩ rfl rfl rfl ?_)
            refine V vm<|V vx<|V vx<|O os<|V va<|?_
            obtain rfl:=Option.some.inj hr
            exact zAJ (zAS ((zAA hX [0,1,3,4] 4 rfl rfl wS wO)))
           ·refine sq<|rg<|V veq<|V va<|nl<|an<|?_
            refine cnd (fun hc63 hr=>?_) (fun hc63 hr=>?_)
            ·obtain ⟨x64,e65,hr⟩:=zA hr
             obtain ⟨x66,e67,hr⟩:=zA hr
             refine sq<|?_
             let c68 : Nat×AV:=(0,.ptr 0 0)
             let c69 : Nat×AV:=(1,.ptr 1 0)
             let c70 : Nat×AV:=(5,.ptr 2 0)
             let c71 : Nat×AV:=(6,.bool false)
             let c72 : Nat×AV:=(7,.ptr 3 0)
             let c73 : Nat×AV:=(8,.ptr 4 0)
             let c74 : Nat×AV:=(9,.i 0)
             let c75 : Nat×AV:=(10,.i 0)
             let c76 : Nat×AO:=(0,.tr E64 (some p0_0))
             let c77 : Nat×AO:=(1,.tr E70 (some p1_0))
             let c78 : Nat×AO:=(2,.var 26 [.i p2.1,.i p2.2.1,.i p2.2.2.1,.i p2.2.2.2.1,.sl Y1 p2.2.2.2.2.1,.str p2.2.2.2.2.2])
             let c79 : Nat×AO:=(3,.var 38 [.i 0,.i 0])
             let c80 : Nat×AO:=(4,.var 38 [.i 0,.i 0])
             let c81 : Nat×AV:=(252,.ptr 0 0)
             let c82 : Nat×AV:=(253,.ptr 2 1)
             let c83 : Nat×AV:=(256,.ptr 1 0)
             let c84 : Nat×AV:=(257,.ptr 2 1)
             let c85 : Nat×AV:=(254,.i p2.2.1)
             let c86 : Nat×AV:=(258,.i p2.2.1)
             let c87 : Nat×AV:=(255,.i x64.1)
             let c88 : Nat×AO:=(0,.tr E64 (some x64.2))
             let c89 : Nat×AV:=(259,.i x66.1)
             let c90 : Nat×AO:=(1,.tr E70 (some x66.2))
             let c91 : Nat×AV:=(260,.bool (decide (x64.1=x66.1)))
             refine awc_drawS mixed (([dF,dF,dF,dF,dF,dF,dF,dF,dF,dF],⟨[c68,c69,c70,c71,c72,c73,c74,c75],[c76,c77,c78,c79,c80],5⟩,[0,1,4,5])::([dT,dF,dF,dF,dF,dF,dF,dF,dF,dF],⟨[c68,c69,c70,c71,c72,c73,c74,c75,c81],[c76,c77,c78,c79,c80],5⟩,[1,4,5])::([dF,dT,dF,dF,dF,dF,dF,dF,dF,dF],⟨[c68,c69,c70,c71,c72,c73,c74,c75,c82],[c76,c77,c78,c79,c80],5⟩,[0,2,4,5])::([dF,dF,dF,dF,dT,dF,dF,dF,dF,dF],⟨[c68,c69,c70,c71,c72,c73,c74,c75,c83],[c76,c77,c78,c79,c80],5⟩,[0,1,5])::([dF,dF,dF,dF,dF,dT,dF,dF,dF,dF],⟨[c68,c69,c70,c71,c72,c73,c74,c75,c84],[c76,c77,c78,c79,c80],5⟩,[0,1,4,6])::([dT,dT,dF,dF,dF,dF,dF,dF,dF,dF],⟨[c68,c69,c70,c71,c72,c73,c74,c75,c81,c82],[c76,c77,c78,c79,c80],5⟩,[2,4,5])::([dT,dF,dF,dF,dT,dF,dF,dF,dF,dF],⟨[c68,c69,c70,c71,c72,c73,c74,c75,c81,c83],[c76,c77,c78,c79,c80],5⟩,[1,5])::([dT,dF,dF,dF,dF,dT,dF,dF,dF,dF],⟨[c68,c69,c70,c71,c72,c73,c74,c75,c81,c84],[c76,c77,c78,c79,c80],5⟩,[1,4,6])::([dF,dT,dT,dF,dF,dF,dF,dF,dF,dF],⟨[c68,c69,c70,c71,c72,c73,c74,c75,c82,c85],[c76,c77,c78,c79,c80],5⟩,[0,4,5])::([dF,dT,dF,dF,dT,dF,dF,dF,dF,dF],⟨[c68,c69,c70,c71,c72,c73,c74,c75,c82,c83],[c76,c77,c78,c79,c80],5⟩,[0,2,5])::([dF,dT,dF,dF,dF,dT,dF,dF,dF,dF],⟨[c68,c69,c70,c71,c72,c73,c74,c75,c82,c84],[c76,c77,c78,c79,c80],5⟩,[0,2,4,6])::([dF,dF,dF,dF,dT,dT,dF,dF,dF,dF],⟨[c68,c69,c70,c71,c72,c73,c74,c75,c83,c84],[c76,c77,c78,c79,c80],5⟩,[0,1,6])::([dF,dF,dF,dF,dF,dT,dT,dF,dF,dF],⟨[c68,c69,c70,c71,c72,c73,c74,c75,c84,c86],[c76,c77,c78,c79,c80],5⟩,[0,1,4])::([dT,dT,dT,dF,dF,dF,dF,dF,dF,dF],⟨[c68,c69,c70,c71,c72,c73,c74,c75,c81,c82,c85],[c76,c77,c78,c79,c80],5⟩,[3,4,5])::([dT,dT,dF,dF,dT,dF,dF,dF,dF,dF],⟨[c68,c69,c70,c71,c72,c73,c74,c75,c81,c82,c83],[c76,c77,c78,c79,c80],5⟩,[2,5])::([dT,dT,dF,dF,dF,dT,dF,dF,dF,dF],⟨[c68,c69,c70,c71,c72,c73,c74,c75,c81,c82,c84],[c76,c77,c78,c79,c80],5⟩,[2,4,6])::([dT,dF,dF,dF,dT,dT,dF,dF,dF,dF],⟨[c68,c69,c70,c71,c72,c73,c74,c75,c81,c83,c84],[c76,c77,c78,c79,c80],5⟩,[1,6])::([dT,dF,dF,dF,dF,dT,dT,dF,dF,dF],⟨[c68,c69,c70,c71,c72,c73,c74,c75,c81,c84,c86],[c76,c77,c78,c79,c80],5⟩,[1,4])::([dF,dT,dT,dF,dT,dF,dF,dF,dF,dF],⟨[c68,c69,c70,c71,c72,c73,c74,c75,c82,c85,c83],[c76,c77,c78,c79,c80],5⟩,[0,5])::([dF,dT,dT,dF,dF,dT,dF,dF,dF,dF],⟨[c68,c69,c70,c71,c72,c73,c74,c75,c82,c85,c84],[c76,c77,c78,c79,c80],5⟩,[0,4,6])::([dF,dT,dF,dF,dT,dT,dF,dF,dF,dF],⟨[c68,c69,c70,c71,c72,c73,c74,c75,c82,c83,c84],[c76,c77,c78,c79,c80],5⟩,[0,2,6])::([dF,dT,dF,dF,dF,dT,dT,dF,dF,dF],⟨[c68,c69,c70,c71,c72,c73,c74,c75,c82,c84,c86],[c76,c77,c78,c79,c80],5⟩,[0,2,4])::([dF,dF,dF,dF,dT,dT,dT,dF,dF,dF],⟨[c68,c69,c70,c71,c72,c73,c74,c75,c83,c84,c86],[c76,c77,c78,c79,c80],5⟩,[0,1])::([dT,dT,dT,dT,dF,dF,dF,dF,dF,dF],⟨[c68,c69,c70,c71,c72,c73,c74,c75,c81,c82,c85,c87],[c88,c77,c78,c79,c80],5⟩,[4,5])::([dT,dT,dT,dF,dT,dF,dF,dF,dF,dF],⟨[c68,c69,c70,c71,c72,c73,c74,c75,c81,c82,c85,c83],[c76,c77,c78,c79,c80],5⟩,[3,5])::([dT,dT,dT,dF,dF,dT,dF,dF,dF,dF],⟨[c68,c69,c70,c71,c72,c73,c74,c75,c81,c82,c85,c84],[c76,c77,c78,c79,c80],5⟩,[3,4,6])::([dT,dT,dF,dF,dT,dT,dF,dF,dF,dF],⟨[c68,c69,c70,c71,c72,c73,c74,c75,c81,c82,c83,c84],[c76,c77,c78,c79,c80],5⟩,[2,6])::([dT,dT,dF,dF,dF,dT,dT,dF,dF,dF],⟨[c68,c69,c70,c71,c72,c73,c74,c75,c81,c82,c84,c86],[c76,c77,c78,c79,c80],5⟩,[2,4])::([dT,dF,dF,dF,dT,dT,dT,dF,dF,dF],⟨[c68,c69,c70,c71,c72,c73,c74,c75,c81,c83,c84,c86],[c76,c77,c78,c79,c80],5⟩,[1])::([dF,dT,dT,dF,dT,dT,dF,dF,dF,dF],⟨[c68,c69,c70,c71,c72,c73,c74,c75,c82,c85,c83,c84],[c76,c77,c78,c79,c80],5⟩,[0,6])::([dF,dT,dT,dF,dF,dT,dT,dF,dF,dF],⟨[c68,c69,c70,c71,c72,c73,c74,c75,c82,c85,c84,c86],[c76,c77,c78,c79,c80],5⟩,[0,4])::([dF,dT,dF,dF,dT,dT,dT,dF,dF,dF],⟨[c68,c69,c70,c71,c72,c73,c74,c75,c82,c83,c84,c86],[c76,c77,c78,c79,c80],5⟩,[0,2])::([dT,dT,dT,dT,dT,dF,dF,dF,dF,dF],⟨[c68,c69,c70,c71,c72,c73,c74,c75,c81,c82,c85,c87,c83],[c88,c77,c78,c79,c80],5⟩,[5])::([dT,dT,dT,dT,dF,dT,dF,dF,dF,dF],⟨[c68,c69,c70,c71,c72,c73,c74,c75,c81,c82,c85,c87,c84],[c88,c77,c78,c79,c80],5⟩,[4,6])::([dT,dT,dT,dF,dT,dT,dF,dF,dF,dF],⟨[c68,c69,c70,c71,c72,c73,c74,c75,c81,c82,c85,c83,c84],[c76,c77,c78,c79,c80],5⟩,[3,6])::([dT,dT,dT,dF,dF,dT,dT,dF,dF,dF],⟨[c68,c69,c70,c71,c72,c73,c74,c75,c81,c82,c85,c84,c86],[c76,c77,c78,c79,c80],5⟩,[3,4])::([dT,dT,dF,dF,dT,dT,dT,dF,dF,dF],⟨[c68,c69,c70,c71,c72,c73,c74,c75,c81,c82,c83,c84,c86],[c76,c77,c78,c79,c80],5⟩,[2])::([dF,dT,dT,dF,dT,dT,dT,dF,dF,dF],⟨[c68,c69,c70,c71,c72,c73,c74,c75,c82,c85,c83,c84,c86],[c76,c77,c78,c79,c80],5⟩,[0])::([dT,dT,dT,dT,dT,dT,dF,dF,dF,dF],⟨[c68,c69,c70,c71,c72,c73,c74,c75,c81,c82,c85,c87,c83,c84],[c88,c77,c78,c79,c80],5⟩,[6])::([dT,dT,dT,dT,dF,dT,dT,dF,dF,dF],⟨[c68,c69,c70,c71,c72,c73,c74,c75,c81,c82,c85,c87,c84,c86],[c88,c77,c78,c79,c80],5⟩,[4])::([dT,dT,dT,dF,dT,dT,dT,dF,dF,dF],⟨[c68,c69,c70,c71,c72,c73,c74,c75,c81,c82,c85,c83,c84,c86],[c76,c77,c78,c79,c80],5⟩,[3])::([dT,dT,dT,dT,dT,dT,dT,dF,dF,dF],⟨[c68,c69,c70,c71,c72,c73,c74,c75,c81,c82,c85,c87,c83,c84,c86],[c88,c77,c78,c79,c80],5⟩,[7])::([dT,dT,dT,dT,dT,dT,dT,dT,dF,dF],⟨[c68,c69,c70,c71,c72,c73,c74,c75,c81,c82,c85,c87,c83,c84,c86,c89],[c88,c90,c78,c79,c80],5⟩,[8])::([dT,dT,dT,dT,dT,dT,dT,dT,dT,dF],⟨[c68,c69,c70,c71,c72,c73,c74,c75,c81,c82,c85,c87,c83,c84,c86,c89,c91],[c88,c90,c78,c79,c80],5⟩,[9])::([dT,dT,dT,dT,dT,dT,dT,dT,dT,dT],⟨[c68,c69,c70,(6,.bool (decide (x64.1=x66.1))),c72,c73,c74,c75,c81,c82,c85,c87,c83,c84,c86,c89,c91],[c88,c90,c78,c79,c80],5⟩,[])::[]) ⟨[c68,c69,c70,c71,c72,c73,c74,c75],[c76,c77,c78,c79,c80],5⟩ ⟨[c68,c69,c70,(6,.bool (decide (x64.1=x66.1))),c72,c73,c74,c75,c81,c82,c85,c87,c83,c84,c86,c89,c91],[c88,c90,c78,c79,c80],5⟩ (zAA hX [0,1,2,3,4] 4 rfl rfl wS wO) rfl rfl rfl rfl rfl ?_ ?_
             ·refine zDs (zDr rfl rfl (aV (zAg rfl) hX [0,1,2,3,4])<|zDr rfl rfl (aV (zAc (faX 26 1 rfl) rfl rfl) hX [0,1,2,3,4])<|zDr rfl rfl (aV (zAg rfl) hX [0,1,2,3,4])<|zDr rfl rfl (aV (zAc (faX 26 1 rfl) rfl rfl) hX [0,1,2,3,4]) zDt)<|zDs (zDr rfl rfl (aV (zAc (faX 26 1 rfl) rfl rfl) hX [0,1,2,3,4])<|zDr rfl rfl (aV (zAg rfl) hX [0,1,2,3,4])<|zDr rfl rfl (aV (zAc (faX 26 1 rfl) rfl rfl) hX [0,1,2,3,4]) zDt)<|zDs (zDr rfl rfl (aV (zAg rfl) hX [0,1,2,3,4])<|zDr rfl rfl (aV (zAU (tsX 3 rfl) rfl rfl rfl) hX [0,1,2,3,4])<|zDr rfl rfl (aV (zAg rfl) hX [0,1,2,3,4])<|zDr rfl rfl (aV (zAc (faX 26 1 rfl) rfl rfl) hX [0,1,2,3,4]) zDt)<|zDs (zDr rfl rfl (aV (zAg rfl) hX [0,1,2,3,4])<|zDr rfl rfl (aV (zAc (faX 26 1 rfl) rfl rfl) hX [0,1,2,3,4])<|zDr rfl rfl (aV (zAc (faX 26 1 rfl) rfl rfl) hX [0,1,2,3,4]) zDt)<|zDs (zDr rfl rfl (aV (zAg rfl) hX [0,1,2,3,4])<|zDr rfl rfl (aV (zAc (faX 26 1 rfl) rfl rfl) hX [0,1,2,3,4])<|zDr rfl rfl (aV (zAg rfl) hX [0,1,2,3,4])<|zDr rfl rfl (aV (zAU (tsX 3 rfl) rfl rfl rfl) hX [0,1,2,3,4]) zDt)<|zDs (zDr rfl rfl (aV (zAU (tsX 3 rfl) rfl rfl rfl) hX [0,1,2,3,4])<|zDr rfl rfl (aV (zAg rfl) hX [0,1,2,3,4])<|zDr rfl rfl (aV (zAc (faX 26 1 rfl) rfl rfl) hX [0,1,2,3,4]) zDt)<|zDs (zDr rfl rfl (aV (zAc (faX 26 1 rfl) rfl rfl) hX [0,1,2,3,4])<|zDr rfl rfl (aV (zAc (faX 26 1 rfl) rfl rfl) hX [0,1,2,3,4]) zDt)<|zDs (zDr rfl rfl (aV (zAc (faX 26 1 rfl) rfl rfl) hX [0,1,2,3,4])<|zDr rfl rfl (aV (zAg rfl) hX [0,1,2,3,4])<|zDr rfl rfl (aV (zAU (tsX 3 rfl) rfl rfl rfl) hX [0,1,2,3,4]) zDt)<|zDs (zDr rfl rfl (aV (zAg rfl) hX [0,1,2,3,4])<|zDr rfl rfl (aV (zAg rfl) hX [0,1,2,3,4])<|zDr rfl rfl (aV (zAc (faX 26 1 rfl) rfl rfl) hX [0,1,2,3,4]) zDt)<|zDs (zDr rfl rfl (aV (zAg rfl) hX [0,1,2,3,4])<|zDr rfl rfl (aV (zAU (tsX 3 rfl) rfl rfl rfl) hX [0,1,2,3,4])<|zDr rfl rfl (aV (zAc (faX 26 1 rfl) rfl rfl) hX [0,1,2,3,4]) zDt)<|zDs (zDr rfl rfl (aV (zAg rfl) hX [0,1,2,3,4])<|zDr rfl rfl (aV (zAU (tsX 3 rfl) rfl rfl rfl) hX [0,1,2,3,4])<|zDr rfl rfl (aV (zAg rfl) hX [0,1,2,3,4])<|zDr rfl rfl (aV (zAU (tsX 3 rfl) rfl rfl rfl) hX [0,1,2,3,4]) zDt)<|zDs (zDr rfl rfl (aV (zAg rfl) hX [0,1,2,3,4])<|zDr rfl rfl (aV (zAc (faX 26 1 rfl) rfl rfl) hX [0,1,2,3,4])<|zDr rfl rfl (aV (zAU (tsX 3 rfl) rfl rfl rfl) hX [0,1,2,3,4]) zDt)<|zDs (zDr rfl rfl (aV (zAg rfl) hX [0,1,2,3,4])<|zDr rfl rfl (aV (zAc (faX 26 1 rfl) rfl rfl) hX [0,1,2,3,4])<|zDr rfl rfl (aV (zAg rfl) hX [0,1,2,3,4]) zDt)<|zDs (zDr rfl rfl (zAP (σ:=[0]) (as':=[.ptr 0 0,.i p2.2.1]) (g31_runs e65).x ent31 rfl ⟨cv0,cv0,trivial⟩ rfl rfl rfl (wkA hX [0,1,2,3,4]))<|zDr rfl rfl (aV (zAg rfl) hX [0,1,2,3,4])<|zDr rfl rfl (aV (zAc (faX 26 1 rfl) rfl rfl) hX [0,1,2,3,4]) zDt)<|zDs (zDr rfl rfl (aV (zAU (tsX 3 rfl) rfl rfl rfl) hX [0,1,2,3,4])<|zDr rfl rfl (aV (zAc (faX 26 1 rfl) rfl rfl) hX [0,1,2,3,4]) zDt)<|zDs (zDr rfl rfl (aV (zAU (tsX 3 rfl) rfl rfl rfl) hX [0,1,2,3,4])<|zDr rfl rfl (aV (zAg rfl) hX [0,1,2,3,4])<|zDr rfl rfl (aV (zAU (tsX 3 rfl) rfl rfl rfl) hX [0,1,2,3,4]) zDt)<|zDs (zDr rfl rfl (aV (zAc (faX 26 1 rfl) rfl rfl) hX [0,1,2,3,4])<|zDr rfl rfl (aV (zAU (tsX 3 rfl) rfl rfl rfl) hX [0,1,2,3,4]) zDt)<|zDs (zDr rfl rfl (aV (zAc (faX 26 1 rfl) rfl rfl) hX [0,1,2,3,4])<|zDr rfl rfl (aV (zAg rfl) hX [0,1,2,3,4]) zDt)<|zDs (zDr rfl rfl (aV (zAg rfl) hX [0,1,2,3,4])<|zDr rfl rfl (aV (zAc (faX 26 1 rfl) rfl rfl) hX [0,1,2,3,4]) zDt)<|zDs (zDr rfl rfl (aV (zAg rfl) hX [0,1,2,3,4])<|zDr rfl rfl (aV (zAg rfl) hX [0,1,2,3,4])<|zDr rfl rfl (aV (zAU (tsX 3 rfl) rfl rfl rfl) hX [0,1,2,3,4]) zDt)<|zDs (zDr rfl rfl (aV (zAg rfl) hX [0,1,2,3,4])<|zDr rfl rfl (aV (zAU (tsX 3 rfl) rfl rfl rfl) hX [0,1,2,3,4])<|zDr rfl rfl (aV (zAU (tsX 3 rfl) rfl rfl rfl) hX [0,1,2,3,4]) zDt)<|zDs (zDr rfl rfl (aV (zAg rfl) hX [0,1,2,3,4])<|zDr rfl rfl (aV (zAU (tsX 3 rfl) rfl rfl rfl) hX [0,1,2,3,4])<|zDr rfl rfl (aV (zAg rfl) hX [0,1,2,3,4]) zDt)<|zDs (zDr rfl rfl (aV (zAg rfl) hX [0,1,2,3,4])<|zDr rfl rfl (aV (zAc (faX 26 1 rfl) rfl rfl) hX [0,1,2,3,4]) zDt)<|zDs (zDr rfl rfl (aV (zAg rfl) hX [0,1,2,3,4])<|zDr rfl rfl (aV (zAc (faX 26 1 rfl) rfl rfl) hX [0,1,2,3,4]) zDt)<|zDs (zDr rfl rfl (zAP (σ:=[0]) (as':=[.ptr 0 0,.i p2.2.1]) (g31_runs e65).x ent31 rfl ⟨cv0,cv0,trivial⟩ rfl rfl rfl (wkA hX [0,1,2,3,4]))<|zDr rfl rfl (aV (zAc (faX 26 1 rfl) rfl rfl) hX [0,1,2,3,4]) zDt)<|zDs (zDr rfl rfl (zAP (σ:=[0]) (as':=[.ptr 0 0,.i p2.2.1]) (g31_runs e65).x ent31 rfl ⟨cv0,cv0,trivial⟩ rfl rfl rfl (wkA hX [0,1,2,3,4]))<|zDr rfl rfl (aV (zAg rfl) hX [0,1,2,3,4])<|zDr rfl rfl (aV (zAU (tsX 3 rfl) rfl rfl rfl) hX [0,1,2,3,4]) zDt)<|zDs (zDr rfl rfl (aV (zAU (tsX 3 rfl) rfl rfl rfl) hX [0,1,2,3,4])<|zDr rfl rfl (aV (zAU (tsX 3 rfl) rfl rfl rfl) hX [0,1,2,3,4]) zDt)<|zDs (zDr rfl rfl (aV (zAU (tsX 3 rfl) rfl rfl rfl) hX [0,1,2,3,4])<|zDr rfl rfl (aV (zAg rfl) hX [0,1,2,3,4]) zDt)<|zDs (zDr rfl rfl (aV (zAc (faX 26 1 rfl) rfl rfl) hX [0,1,2,3,4]) zDt)<|zDs (zDr rfl rfl (aV (zAg rfl) hX [0,1,2,3,4])<|zDr rfl rfl (aV (zAU (tsX 3 rfl) rfl rfl rfl) hX [0,1,2,3,4]) zDt)<|zDs (zDr rfl rfl (aV (zAg rfl) hX [0,1,2,3,4])<|zDr rfl rfl (aV (zAg rfl) hX [0,1,2,3,4]) zDt)<|zDs (zDr rfl rfl (aV (zAg rfl) hX [0,1,2,3,4])<|zDr rfl rfl (aV (zAU (tsX 3 rfl) rfl rfl rfl) hX [0,1,2,3,4]) zDt)<|zDs (zDr rfl rfl (aV (zAc (faX 26 1 rfl) rfl rfl) hX [0,1,2,3,4]) zDt)<|zDs (zDr rfl rfl (aV (zAg rfl) hX [0,1,2,3,4])<|zDr rfl rfl (aV (zAU (tsX 3 rfl) rfl rfl rfl) hX [0,1,2,3,4]) zDt)<|zDs (zDr rfl rfl (zAP (σ:=[0]) (as':=[.ptr 0 0,.i p2.2.1]) (g31_runs e65).x ent31 rfl ⟨cv0,cv0,trivial⟩ rfl rfl rfl (wkA hX [0,1,2,3,4]))<|zDr rfl rfl (aV (zAU (tsX 3 rfl) rfl rfl rfl) hX [0,1,2,3,4]) zDt)<|zDs (zDr rfl rfl (zAP (σ:=[0]) (as':=[.ptr 0 0,.i p2.2.1]) (g31_runs e65).x ent31 rfl ⟨cv0,cv0,trivial⟩ rfl rfl rfl (wkA hX [0,1,2,3,4]))<|zDr rfl rfl (aV (zAg rfl) hX [0,1,2,3,4]) zDt)<|zDs (zDr rfl rfl (aV (zAU (tsX 3 rfl) rfl rfl rfl) hX [0,1,2,3,4]) zDt)<|zDs (zDr rfl rfl (aV (zAg rfl) hX [0,1,2,3,4]) zDt)<|zDs (zDr rfl rfl (aV (zAU (tsX 3 rfl) rfl rfl rfl) hX [0,1,2,3,4]) zDt)<|zDs (zDr rfl rfl (aV (zAg rfl) hX [0,1,2,3,4]) zDt)<|zDs (zDr rfl rfl (zAP (σ:=[0]) (as':=[.ptr 0 0,.i p2.2.1]) (g31_runs e65).x ent31 rfl ⟨cv0,cv0,trivial⟩ rfl rfl rfl (wkA hX [0,1,2,3,4])) zDt)<|zDs (zDr rfl rfl (zAP (σ:=[1]) (as':=[.ptr 1 0,.i p2.2.1]) (g32_runs e67).x ent32 rfl ⟨cv0,cv0,trivial⟩ rfl rfl rfl (wkA hX [0,1,2,3,4])) zDt)<|zDs (zDr rfl rfl (aV (av_eql rfl rfl) hX [0,1,2,3,4]) zDt)<|zDs (zDr rfl rfl (aV (zDJ rfl) hX [0,1,2,3,4]) zDt)<|zDs zDt<|?_
              exact obd_n
             obtain rfl:=Option.some.inj hr
             exact zAZ (zAw (zAE (⟨rfl,(zAA hX [0,1] 4 rfl rfl wS wO)⟩)))
            ·refine sq<|rg<|V veq<|V va<|nl<|an<|?_
             refine cnd (fun hc92 hr=>?_) (fun hc92 hr=>?_)
             ·obtain ⟨x93,e94,hr⟩:=zA hr
              refine sq<|rg<|V vm<|V vfp<|V vlp<|V vfp<|V vlp<|V vfp<|V vlp<|?_
              refine zAG (zAd (i:=0) [.map 7,.i p0_0.2.1,.i p0_0.2.2] [.mpt .i (.mp Y1 (.dat (.raw ifN))) p0_0.1 []] rfl rfl rfl rfl)<|?_
              refine zAK (zAp (as':=[.ptr 0 0,.i p2.2.1,.i p2.2.2.1,.i p2.2.2.2.1]) (g33_runs e94).x ent33 rfl ⟨cv0,cv0,cv0,cv0,trivial⟩ rfl rfl rfl ?_)
              obtain ⟨x95,e96,hr⟩:=zA hr
              refine V vm<|V vx<|V vx<|V vx<|V va<|V va<|V va<|nl<|an<|sq<|rg<|V vm<|V vfp<|V vlp<|V vfp<|V vlp<|V vfp<|V vlp<|?_
              refine zAG (zAd (i:=1) [.osl 9,.i p1_0.2] [.sl 67 Y4 p1_0.1] rfl rfl rfl rfl)<|?_
              refine zAK (zAp (as':=[.ptr 1 0,.i p2.2.1,.i p2.2.2.1,.i p2.2.2.2.1]) (g34_runs e96).x ent34 rfl ⟨cv0,cv0,cv0,cv0,trivial⟩ rfl rfl rfl ?_)
              obtain ⟨x97,e98,hr⟩:=zA hr
              refine V vm<|V vx<|V vx<|V vx<|V va<|V va<|V va<|nl<|an<|sq<|?_
              refine zAa [7,8,9,10,23,24,25,26,27,28] [(true,.osl 8),(true,.osl 10),(true,.bool x97),(true,.bool x97),(x97,.i x93.1),(x97,.i x95.1),(x97,.bool (decide (x93.1=x95.1))),(true,.bool (x97&&(decide (x93.1=x95.1)))),(true,.bool (x97&&(decide (x93.1=x95.1)))),(x97&&(decide (x93.1=x95.1)),.i x93.2.1),(x97&&(decide (x93.1=x95.1)),.i x95.2.1),(x97&&(decide (x93.1=x95.1)),.bool (decide (x93.2.1=x95.2.1))),(true,.bool ((x97&&(decide (x93.1=x95.1)))&&(decide (x93.2.1=x95.2.1)))),(true,.bool ((x97&&(decide (x93.1=x95.1)))&&(decide (x93.2.1=x95.2.1))))] [[],[],[0,1],[2],[3],[3],[4,5,3],[6,3],[7],[8],[8],[9,10,8],[11,8],[12]] [13] rfl rfl rfl rfl rfl ⟨?_,?_,?_,?_,?_,?_,?_,?_,?_,?_,?_,?_,?_,?_,trivial⟩ (zAD ⟨rfl,trivial⟩) ?_
              ·exact oB wm
              ·exact oB wm
              ·exact zAr rfl (fun hg=>zAD ⟨rfl,rfl,trivial⟩) (fun hg=>zAj (as':=[.osl 8,.osl 10]) (g35_runs e98).x ent35 rfl ⟨cv0,cv0,trivial⟩ rfl rfl)
              ·exact oB wm
              ·exact oB wm
              ·exact oB wm
              ·exact oB weq
              ·exact zBe
              ·exact oB wm
              ·exact oB wm
              ·exact oB wm
              ·exact oB weq
              ·exact zBe
              ·exact oB wa
              obtain rfl:=Option.some.inj hr
              exact zAZ (zAw (zAE (⟨rfl,(Wk.trans (pk (i:=0) (e:=F64) (js:=[7]) p0_0) (Wk.trans (pk (i:=1) (e:=F70) (js:=[9]) p1_0) (zAA hX [0,1] 4 rfl rfl wS wO)))⟩)))
             ·refine sq<|rg<|V veq<|V va<|nl<|an<|?_
              refine cnd (fun hc99 hr=>?_) (fun hc99 hr=>?_)
              ·obtain ⟨x100,e101,hr⟩:=zA hr
               refine sq<|rg<|V vm<|V vfp<|V vlp<|?_
               refine zAG (zAd (i:=0) [.map 7,.i p0_0.2.1,.i p0_0.2.2] [.mpt .i (.mp Y1 (.dat (.raw ifN))) p0_0.1 []] rfl rfl rfl rfl)<|?_
               refine zAK (zAp (as':=[.ptr 0 0,.i p2.2.1]) (g18_runs e101).x ent18 rfl ⟨cv0,cv0,trivial⟩ rfl rfl rfl ?_)
               obtain ⟨x102,e103,hr⟩:=zA hr
               refine V vm<|V vx<|V vx<|V va<|V va<|nl<|an<|sq<|rg<|V vm<|V vfp<|V vlp<|?_
               refine zAG (zAd (i:=1) [.osl 9,.i p1_0.2] [.sl 67 Y4 p1_0.1] rfl rfl rfl rfl)<|?_
               refine zAK (zAp (as':=[.ptr 1 0,.i p2.2.1]) (g19_runs e103).x ent19 rfl ⟨cv0,cv0,trivial⟩ rfl rfl rfl ?_)
               obtain ⟨x104,e105,hr⟩:=zA hr
               refine V vm<|V vx<|V vx<|V va<|V va<|nl<|an<|sq<|?_
               refine zAa [7,8,9,10,29,30,31,32] [(true,.osl 8),(true,.osl 10),(true,.bool x104),(true,.bool x104),(x104,.i x100.1),(x104,.i x102.1),(x104,.bool (decide (x100.1=x102.1))),(true,.bool (x104&&(decide (x100.1=x102.1)))),(true,.bool (x104&&(decide (x100.1=x102.1))))] [[],[],[0,1],[2],[3],[3],[4,5,3],[6,3],[7]] [8] rfl rfl rfl rfl rfl ⟨?_,?_,?_,?_,?_,?_,?_,?_,?_,trivial⟩ (zAD ⟨rfl,trivial⟩) ?_
               ·exact oB wm
               ·exact oB wm
               ·exact zAr rfl (fun hg=>zAD ⟨rfl,rfl,trivial⟩) (fun hg=>zAj (as':=[.osl 8,.osl 10]) (g21_runs e105).x ent21 rfl ⟨cv0,cv0,trivial⟩ rfl rfl)
               ·exact oB wm
               ·exact oB wm
               ·exact oB wm
               ·exact oB weq
               ·exact zBe
               ·exact oB wa
               obtain rfl:=Option.some.inj hr
               exact zAZ (zAw (zAE (⟨rfl,(Wk.trans (pk (i:=0) (e:=F64) (js:=[7]) p0_0) (Wk.trans (pk (i:=1) (e:=F70) (js:=[9]) p1_0) (zAA hX [0,1] 4 rfl rfl wS wO)))⟩)))
              ·obtain ⟨x106,e107,hr⟩:=zA hr
               obtain ⟨x108,e109,hr⟩:=zA hr
               refine sq<|rg<|V vm<|V vfp<|V vlp<|V vfp<|V vlp<|?_
               refine zAG (zAd (i:=0) [.map 7,.i p0_0.2.1,.i p0_0.2.2] [.mpt .i (.mp Y1 (.dat (.raw ifN))) p0_0.1 []] rfl rfl rfl rfl)<|V (zBD (as':=[.ptr 0 0,.i p2.2.1,.sl Y1 p2.2.2.2.2.1]) (Hs:=[]) (zDi e107).x ent11 rfl ⟨cv0,cv0,cv0,trivial⟩ rfl rfl rfl)<|V vm<|V vx<|V vx<|V vx<|O oa<|O oa<|O os<|O os<|V va<|nl<|an<|sq<|rg<|V vm<|V vfp<|V vlp<|V vfp<|V vlp<|?_
               refine zAG (zAd (i:=1) [.osl 10,.i p1_0.2] [.sl 67 Y4 p1_0.1] rfl rfl rfl rfl)<|V (zBD (as':=[.ptr 1 0,.i p2.2.1,.sl Y1 p2.2.2.2.2.1]) (Hs:=[]) (g36_runs e109).x ent36 rfl ⟨cv0,cv0,cv0,trivial⟩ rfl rfl rfl)<|V vm<|V vx<|V vx<|V vx<|O oa<|O oa<|O os<|O os<|V va<|nl<|an<|sq<|?_
               refine zAa [7,8,9,10,33,34,35,36,37,38] [(true,.agg [.str x106.1.1.1,.str x106.1.1.2,.str x106.1.2.1,.i x106.1.2.2.1,.bool x106.1.2.2.2]),(true,.agg [.str x108.1.1.1,.str x108.1.1.2,.str x108.1.2.1,.i x108.1.2.2.1,.bool x108.1.2.2.2]),(true,.bool ((decide (bstr x106.1.1.1=bstr x108.1.1.1))&&((decide (bstr x106.1.1.2=bstr x108.1.1.2))&&((decide (bstr x106.1.2.1=bstr x108.1.2.1))&&((decide (x106.1.2.2.1=x108.1.2.2.1))&&(decide (x106.1.2.2.2=x108.1.2.2.2))))))),(true,.bool ((decide (bstr x106.1.1.1=bstr x108.1.1.1))&&((decide (bstr x106.1.1.2=bstr x108.1.1.2))&&((decide (bstr x106.1.2.1=bstr x108.1.2.1))&&((decide (x106.1.2.2.1=x108.1.2.2.1))&&(decide (x106.1.2.2.2=x108.1.2.2.2))))))),((decide (bstr x106.1.1.1=bstr x108.1.1.1))&&((decide (bstr x106.1.1.2=bstr x108.1.1.2))&&((decide (bstr x106.1.2.1=bstr x108.1.2.1))&&((decide (x106.1.2.2.1=x108.1.2.2.1))&&(decide (x106.1.2.2.2=x108.1.2.2.2))))),.agg [.i x106.2.1.1,.i x106.2.1.2]),((decide (bstr x106.1.1.1=bstr x108.1.1.1))&&((decide (bstr x106.1.1.2=bstr x108.1.1.2))&&((decide (bstr x106.1.2.1=bstr x108.1.2.1))&&((decide (x106.1.2.2.1=x108.1.2.2.1))&&(decide (x106.1.2.2.2=x108.1.2.2.2))))),.agg [.i x108.2.1.1,.i x108.2.1.2]),((decide (bstr x106.1.1.1=bstr x108.1.1.1))&&((decide (bstr x106.1.1.2=bstr x108.1.1.2))&&((decide (bstr x106.1.2.1=bstr x108.1.2.1))&&((decide (x106.1.2.2.1=x108.1.2.2.1))&&(decide (x106.1.2.2.2=x108.1.2.2.2))))),.bool ((decide (x106.2.1.1=x108.2.1.1))&&(decide (x106.2.1.2=x108.2.1.2)))),(true,.bool (((decide (bstr x106.1.1.1=bstr x108.1.1.1))&&((decide (bstr x106.1.1.2=bstr x108.1.1.2))&&((decide (bstr x106.1.2.1=bstr x108.1.2.1))&&((decide (x106.1.2.2.1=x108.1.2.2.1))&&(decide (x106.1.2.2.2=x108.1.2.2.2))))))&&((decide (x106.2.1.1=x108.2.1.1))&&(decide (x106.2.1.2=x108.2.1.2))))),(true,.bool (((decide (bstr x106.1.1.1=bstr x108.1.1.1))&&((decide (bstr x106.1.1.2=bstr x108.1.1.2))&&((decide (bstr x106.1.2.1=bstr x108.1.2.1))&&((decide (x106.1.2.2.1=x108.1.2.2.1))&&(decide (x106.1.2.2.2=x108.1.2.2.2))))))&&((decide (x106.2.1.1=x108.2.1.1))&&(decide (x106.2.1.2=x108.2.1.2))))),(((decide (bstr x106.1.1.1=bstr x108.1.1.1))&&((decide (bstr x106.1.1.2=bstr x108.1.1.2))&&((decide (bstr x106.1.2.1=bstr x108.1.2.1))&&((decide (x106.1.2.2.1=x108.1.2.2.1))&&(decide (x106.1.2.2.2=x108.1.2.2.2))))))&&((decide (x106.2.1.1=x108.2.1.1))&&(decide (x106.2.1.2=x108.2.1.2))),.i x106.2.2),(((decide (bstr x106.1.1.1=bstr x108.1.1.1))&&((decide (bstr x106.1.1.2=bstr x108.1.1.2))&&((decide (bstr x106.1.2.1=bstr x108.1.2.1))&&((decide (x106.1.2.2.1=x108.1.2.2.1))&&(decide (x106.1.2.2.2=x108.1.2.2.2))))))&&((decide (x106.2.1.1=x108.2.1.1))&&(decide (x106.2.1.2=x108.2.1.2))),.i x108.2.2),(((decide (bstr x106.1.1.1=bstr x108.1.1.1))&&((decide (bstr x106.1.1.2=bstr x108.1.1.2))&&((decide (bstr x106.1.2.1=bstr x108.1.2.1))&&((decide (x106.1.2.2.1=x108.1.2.2.1))&&(decide (x106.1.2.2.2=x108.1.2.2.2))))))&&((decide (x106.2.1.1=x108.2.1.1))&&(decide (x106.2.1.2=x108.2.1.2))),.bool (decide (x106.2.2=x108.2.2))),(true,.bool ((((decide (bstr x106.1.1.1=bstr x108.1.1.1))&&((decide (bstr x106.1.1.2=bstr x108.1.1.2))&&((decide (bstr x106.1.2.1=bstr x108.1.2.1))&&((decide (x106.1.2.2.1=x108.1.2.2.1))&&(decide (x106.1.2.2.2=x108.1.2.2.2))))))&&((decide (x106.2.1.1=x108.2.1.1))&&(decide (x106.2.1.2=x108.2.1.2))))&&(decide (x106.2.2=x108.2.2)))),(true,.bool ((((decide (bstr x106.1.1.1=bstr x108.1.1.1))&&((decide (bstr x106.1.1.2=bstr x108.1.1.2))&&((decide (bstr x106.1.2.1=bstr x108.1.2.1))&&((decide (x106.1.2.2.1=x108.1.2.2.1))&&(decide (x106.1.2.2.2=x108.1.2.2.2))))))&&((decide (x106.2.1.1=x108.2.1.1))&&(decide (x106.2.1.2=x108.2.1.2))))&&(decide (x106.2.2=x108.2.2))))] [[],[],[0,1],[2],[3],[3],[4,5,3],[6,3],[7],[8],[8],[9,10,8],[11,8],[12]] [13] rfl rfl rfl rfl rfl ⟨?_,?_,?_,?_,?_,?_,?_,?_,?_,?_,?_,?_,?_,?_,trivial⟩ (zAD ⟨rfl,trivial⟩) ?_
               ·exact oB wlP
               ·exact oB wlP
               ·exact zAr rfl (fun hg=>zAD ⟨rfl,rfl,trivial⟩) (fun hg=>av_eqlA (r:=(decide (bstr x106.1.1.1=bstr x108.1.1.1))&&((decide (bstr x106.1.1.2=bstr x108.1.1.2))&&((decide (bstr x106.1.2.1=bstr x108.1.2.1))&&((decide (x106.1.2.2.1=x108.1.2.2.1))&&(decide (x106.1.2.2.2=x108.1.2.2.2)))))) eq36 rfl rfl rfl rfl rfl rfl)
               ·exact oB wm
               ·exact oB wlP
               ·exact oB wlP
               ·exact zAr ⟨rfl,rfl,rfl,_,rfl,rfl⟩ (fun hg=>zAD ⟨hg,hg,rfl,trivial⟩) (fun hg=>av_eqlA (r:=(decide (x106.2.1.1=x108.2.1.1))&&(decide (x106.2.1.2=x108.2.1.2))) eq38 rfl rfl rfl rfl rfl rfl)
               ·exact zBe
               ·exact oB wm
               ·exact oB wm
               ·exact oB wm
               ·exact oB weq
               ·exact zBe
               ·exact oB wa
               obtain rfl:=Option.some.inj hr
               exact zAZ (zAw (zAE (⟨rfl,(Wk.trans (pk (i:=0) (e:=F64) (js:=[7]) p0_0) (Wk.trans (pk (i:=1) (e:=F70) (js:=[10]) p1_0) (zAA hX [0,1] 4 rfl rfl wS wO)))⟩)))
      ·exact fun r h e st hne hx=>hx.elim
    ·exact fun r h e st hne hx=>hx.elim
  ·exact fun r h e st hne hx=>hx.elim
 ·rintro ⟨s3,s4,s5,s6,s7,s8,s9,s10⟩ rfl
  refine sq<|?_
  refine zAa [7,8,9,10] [(true,.agg [.i s7,.i s8]),(true,.agg [.i s9,.i s10]),(true,.bool ((decide (s7=s9))&&(decide (s8=s10)))),(true,.bool ((decide (s7=s9))&&(decide (s8=s10)))),((decide (s7=s9))&&(decide (s8=s10)),.i s3),((decide (s7=s9))&&(decide (s8=s10)),.i s4),((decide (s7=s9))&&(decide (s8=s10)),.bool (decide (s3=s4))),(true,.bool (((decide (s7=s9))&&(decide (s8=s10)))&&(decide (s3=s4)))),(true,.bool (((decide (s7=s9))&&(decide (s8=s10)))&&(decide (s3=s4))))] [[],[],[0,1],[2],[3],[3],[4,5,3],[6,3],[7]] [8] rfl rfl rfl rfl rfl ⟨?_,?_,?_,?_,?_,?_,?_,?_,?_,trivial⟩ (zAD ⟨rfl,trivial⟩) ?_
  ·exact oB wlP
  ·exact oB wlP
  ·exact zAr rfl (fun hg=>zAD ⟨rfl,rfl,trivial⟩) (fun hg=>av_eqlA (r:=(decide (s7=s9))&&(decide (s8=s10))) eq38 rfl rfl rfl rfl rfl rfl)
  ·exact oB wm
  ·exact oB wm
  ·exact oB wm
  ·exact oB weq
  ·exact zBe
  ·exact oB wa
  obtain rfl:=Option.some.inj hr
  exact zAZ (zAw (zAe (l':=[(6,.bool (((decide (s7=s9))&&(decide (s8=s10)))&&(decide (s3=s4))))]) (Hs:=[(0,.tr E64 (some s5)),(1,.tr E70 (some s6))]) (n:=2) (zAA hX [0,1] 4 rfl rfl wS wO) rfl rfl rfl ⟨rfl,trivial⟩))
 ·rintro r rfl e st hne hx
  obtain ⟨s11,s12,s13⟩:=r
  obtain ⟨rfl,hw⟩:=hx
  obtain rfl:=Option.some.inj hr
  exact zAe (l':=[(6,.bool s11)]) (Hs:=[(0,.tr E64 (some s12)),(1,.tr E70 (some s13))]) (n:=2) (Wk.trans hw (zAA hX [0,1] 4 rfl rfl wS wO)) rfl rfl rfl ⟨rfl,trivial⟩
theorem ent6 : Enters Tryz.prog 6:=enters_of Tryz.func6 (by kernel_rfl) rfl
theorem bt26 : zC4 Tryz.prog 26 (.agg #[.int .i64 0,.int .i64 0,.int .i64 0,.int .i64 0,.slice none 0 0,.string ByteArray.empty]) (fun i=>[(0,1),(1,1),(2,1),(3,1),(4,1),(5,1)][i]?):=zBn (zDB 26 rfl) (fs:=Tryz.prog.fieldsOf 26) (by kernel_rfl) (fun w=>by kernel_rfl)
theorem bs22 : BuildS Tryz.prog 22 26 Y2:=zCh (z:=.agg #[.int .i64 0,.int .i64 0,.int .i64 0,.int .i64 0,.slice none 0 0,.string ByteArray.empty]) (by kernel_rfl) (by kernel_rfl) rfl
theorem ent7 : Enters Tryz.prog 7:=enters_of Tryz.func7 (by kernel_rfl) rfl
theorem ent9 : Enters Tryz.prog 9:=enters_of Tryz.func9 (by kernel_rfl) rfl
theorem ent10 : Enters Tryz.prog 10:=enters_of Tryz.func10 (by kernel_rfl) rfl
theorem g4_runs {p0:List (ZX)}{p1:Int}{p2:Str×Str}{p3:Str×Str}{p4:Str}{r:Bool}(hr:g4 p0 p1 p2 p3 p4=some r) : zBb Tryz.prog 4 [.sl Y2 p0,.i p1,.agg [.str p2.1,.str p2.2],.agg [.str p3.1,.str p3.2],.str p4] [.bool r]:=by
 refine zAW Tryz.func4 Tryz.ntmps4 rfl (rs:=[.tmp 10]) rfl rfl fun w0 X hX=>?_
 obtain ⟨x1,e2,hr⟩:=zA hr
 refine sq<|rg<|O ob<|O ob<|V va<|nl<|an<|sq<|sq<|?_
 obtain ⟨h3,hr⟩:=zAN hr
 refine zAa [0,1,4,7,8,10] [(true,.sl Y2 p0),(true,.bool x1),(true,.bool (!x1)),(true,.bool (!x1)),(!(!x1),.agg [.str p2.1,.str p2.2]),(!(!x1),.agg [.str p3.1,.str p3.2]),(!(!x1),.sl Y1 [p2,p3]),(!(!x1),.str p4),(!(!x1),.agg [.i 0,.i 0,.i 0,.i 0,.sl Y1 [p2,p3],.str p4]),(!(!x1),.sl Y2 [(0,0,0,0,[p2,p3],p4)]),(!(!x1),.bool ((g6 [(0,0,0,0,[p2,p3],p4)]).getD default)),(!(!x1),.bool (!((g6 [(0,0,0,0,[p2,p3],p4)]).getD default))),(true,.bool ((!x1)||(!((g6 [(0,0,0,0,[p2,p3],p4)]).getD default))))] [[],[0],[1],[2],[3],[3],[4,5,3],[3],[6,7,3],[8,3],[9,3],[10,3],[11,3]] [12] rfl rfl rfl rfl rfl ⟨?_,?_,?_,?_,?_,?_,?_,?_,?_,?_,?_,?_,?_,trivial⟩ (zAD ⟨rfl,trivial⟩) ?_
 ·exact oB wm
 ·exact zAr rfl (fun hg=>zAD ⟨rfl,trivial⟩) (fun hg=>zAV (g6_runs e2).x ent6 rfl rfl)
 ·exact oB wno
 ·exact oB wm
 ·exact oB wlP
 ·exact oB wlP
 ·exact zAr ⟨rfl,rfl,rfl,_,rfl,rfl⟩ (fun hg=>zAD ⟨hg,hg,rfl,trivial⟩) (fun hg=>zAM (t:=Y1) (qs:=[(0,[.str p2.1,.str p2.2]),(1,[.str p3.1,.str p3.2])]) (ys:=[p2,p3]) bs23 rfl rfl rfl rfl rfl rfl rfl rfl)
 ·exact oB wm
 ·exact zAr ⟨rfl,rfl,rfl,_,rfl,rfl⟩ (fun hg=>zAD ⟨hg,hg,rfl,trivial⟩) (fun hg=>zAs (qs:=[(4,[.sl Y1 [p2,p3]]),(5,[.str p4])]) (cs:=[.i 0,.i 0,.i 0,.i 0,.sl Y1 [p2,p3],.str p4]) bt26 rfl rfl rfl)
 ·exact zAr ⟨rfl,rfl,rfl,_,rfl,rfl⟩ (fun hg=>zAD ⟨hg,rfl,trivial⟩) (fun hg=>zAM (t:=Y2) (qs:=[(0,[.i 0,.i 0,.i 0,.i 0,.sl Y1 [p2,p3],.str p4])]) (ys:=[(0,0,0,0,[p2,p3],p4)]) bs22 rfl rfl rfl rfl rfl rfl rfl rfl)
 ·exact zAr ⟨rfl,rfl,rfl,_,rfl,rfl⟩ (fun hg=>zAD ⟨hg,rfl,trivial⟩) (fun hg=>zAV (g6_runs (zAz h3 hg)).x ent6 rfl rfl)
 ·exact oB wno
 ·exact zBr
 refine an<|?_
 refine cnd (fun hc4 hr=>?_) (fun hc4 hr=>?_)
 ·obtain ⟨x5,e6,hr⟩:=zA hr
  refine sq<|rg<|V (zAV (g7_runs e6).x ent7 rfl rfl)<|V va<|?_
  obtain rfl:=Option.some.inj hr
  exact nl<|an<|cr<|zAC (zAk (l':=[(10,.bool x5)]) (zAA hX [] 4 rfl rfl wS trivial) rfl ⟨rfl,trivial⟩)
 ·obtain ⟨x7,e8,hr⟩:=zA hr
  refine sk<|an<|sq<|rg<|?_
  refine zAK (zAP (σ:=[]) (as':=[]) (f14_runs e8).x ent8 rfl trivial rfl rfl rfl ?_)
  obtain ⟨x9,e10,hr⟩:=zA hr
  refine zAK (zAP (σ:=[]) (as':=[]) (g9_runs e10).x ent9 rfl trivial rfl rfl rfl ?_)
  obtain ⟨o18,e19,hr⟩:=zA hr
  refine zAG (zAA (st':=⟨[(0,.sl Y2 p0),(1,.i p1),(4,.str p4),(7,.ptr 0 0),(8,.ptr 1 0),(10,.bool false),(48,.ptr 2 0),(49,.ptr 3 0)],[(0,.var 34 [.str p2.1,.str p2.2]),(1,.var 34 [.str p3.1,.str p3.2]),(2,.tr E64 (some ((mset [] 0 []),1,0))),(3,.tr E70 (some ([(0,([] : ZE))],1)))],4⟩) hX [0,1,2,3] 4 rfl rfl wS wO)<|V va<|V va<|nl<|an<|sq<|sq<|rg<|V vm<|?_
  refine V (av_ptrnil (undX 28 rfl) rfl rfl)<|nl<|an<|?_
  refine zA3 rfl<|sk<|an<|sq<|sq<|rg<|V vm<|V vnl<|V vm<|nl<|an<|bl<|?_
  refine zAb (t:=0) rfl (fun hl=>?_)
  refine zAI (List.length p0 : Int) (g4_b0 p0) (fun p=>match p with | (i11,s13,s14)=>(⟨[(1,.i p1),(4,.str p4),(7,.ptr 0 0),(8,.ptr 1 0),(10,.bool false),(11,.ptr 2 0),(12,.ptr 3 0),(52,.sl Y2 p0),(53,.i (List.length p0 : Int)),(54,.i i11)],[(0,.var 34 [.str p2.1,.str p2.2]),(1,.var 34 [.str p3.1,.str p3.2]),(2,.tr E64 (some s13)),(3,.tr E70 (some s14))],4⟩ : AS)) (fun o e st=>match o with | .inr _=>False | .inl (s13,s14)=>e=.exit 0∧Wk X st ⟨[(1,.i p1),(4,.str p4),(7,.ptr 0 0),(8,.ptr 1 0),(10,.bool false),(11,.ptr 2 0)],[(0,.var 34 [.str p2.1,.str p2.2]),(1,.var 34 [.str p3.1,.str p3.2]),(2,.tr E64 (some s13))],3⟩) (zAf hl) e19 (by exact zAA hX [0,1,2,3] 4 rfl rfl wS wO) ?_ ?_
  ·intro e st hx
   rcases o18 with ⟨s13,s14⟩ | _
   ·obtain ⟨rfl,hw⟩:=hx
    refine bh<|an<|(zAY hw)<|sq<|?_
    let c20 : Nat×AV:=(1,.i p1)
    let c21 : Nat×AV:=(4,.str p4)
    let c22 : Nat×AV:=(7,.ptr 0 0)
    let c23 : Nat×AV:=(8,.ptr 1 0)
    let c24 : Nat×AV:=(10,.bool false)
    let c25 : Nat×AV:=(11,.ptr 2 0)
    let c26 : Nat×AO:=(0,.var 34 [.str p2.1,.str p2.2])
    let c27 : Nat×AO:=(1,.var 34 [.str p3.1,.str p3.2])
    let c28 : Nat×AO:=(2,.tr E64 (some s13))
    let c29 : Nat×AV:=(66,.agg [.str p2.1,.str p2.2])
    let c30 : Nat×AV:=(68,.agg [.str p3.1,.str p3.2])
    let c31 : Nat×AV:=(67,.osl 3)
    let c32 : Nat×AO:=(3,.sl 34 Y1 [p2])
    let c33 : Nat×AV:=(69,.osl 3)
    let c34 : Nat×AO:=(3,.sl 34 Y1 [p3])
    let c35 : Nat×AV:=(15,.osl 3)
    let c36 : Nat×AV:=(69,.osl 4)
    let c37 : Nat×AO:=(4,.sl 34 Y1 [p3])
    refine awc_drawS mixed (([dF,dF,dF,dF,dF,dF],⟨[c20,c21,c22,c23,c24,c25],[c26,c27,c28],3⟩,[0,2])::([dT,dF,dF,dF,dF,dF],⟨[c20,c21,c22,c23,c24,c25,c29],[c26,c27,c28],3⟩,[1,2])::([dF,dF,dT,dF,dF,dF],⟨[c20,c21,c22,c23,c24,c25,c30],[c26,c27,c28],3⟩,[0,3])::([dT,dT,dF,dF,dF,dF],⟨[c20,c21,c22,c23,c24,c25,c29,c31],[c26,c27,c28,c32],4⟩,[2,4])::([dT,dF,dT,dF,dF,dF],⟨[c20,c21,c22,c23,c24,c25,c29,c30],[c26,c27,c28],3⟩,[1,3])::([dF,dF,dT,dT,dF,dF],⟨[c20,c21,c22,c23,c24,c25,c30,c33],[c26,c27,c28,c34],4⟩,[0])::([dT,dT,dT,dF,dF,dF],⟨[c20,c21,c22,c23,c24,c25,c29,c31,c30],[c26,c27,c28,c32],4⟩,[3,4])::([dT,dT,dF,dF,dT,dF],⟨[c20,c21,c22,c23,c24,c25,c29,c31,c35],[c26,c27,c28,c32],4⟩,[2])::([dT,dF,dT,dT,dF,dF],⟨[c20,c21,c22,c23,c24,c25,c29,c30,c33],[c26,c27,c28,c34],4⟩,[1])::([dT,dT,dT,dT,dF,dF],⟨[c20,c21,c22,c23,c24,c25,c29,c31,c30,c36],[c26,c27,c28,c32,c37],5⟩,[4])::([dT,dT,dT,dF,dT,dF],⟨[c20,c21,c22,c23,c24,c25,c29,c31,c30,c35],[c26,c27,c28,c32],4⟩,[3])::([dT,dT,dT,dT,dT,dF],⟨[c20,c21,c22,c23,c24,c25,c29,c31,c30,c36,c35],[c26,c27,c28,c32,c37],5⟩,[5])::([dT,dT,dT,dT,dT,dT],⟨[c20,c21,c22,c23,c24,c25,c29,c31,c30,c36,c35,(16,.osl 4)],[c26,c27,c28,c32,c37],5⟩,[])::[]) ⟨[c20,c21,c22,c23,c24,c25],[c26,c27,c28],3⟩ ⟨[c20,c21,c22,c23,c24,c25,c29,c31,c30,c36,c35,(16,.osl 4)],[c26,c27,c28,c32,c37],5⟩ (zAA hX [0,1,2] 4 rfl rfl wS wO) rfl rfl rfl rfl rfl ?_ ?_
    ·refine zDs (zDr rfl rfl (aV (zDG (tsX 34 rfl) rfl rfl rfl rfl) hX [0,1,2])<|zDr rfl rfl (aV (zDG (tsX 34 rfl) rfl rfl rfl rfl) hX [0,1,2]) zDt)<|zDs (zDr rfl rfl (zBq (t:=Y1) (qs:=[(0,[.str p2.1,.str p2.2])]) (ys:=[p2]) bs23 rfl rfl rfl rfl rfl rfl rfl rfl (wkA hX [0,1,2,3]))<|zDr rfl rfl (aV (zDG (tsX 34 rfl) rfl rfl rfl rfl) hX [0,1,2]) zDt)<|zDs (zDr rfl rfl (aV (zDG (tsX 34 rfl) rfl rfl rfl rfl) hX [0,1,2])<|zDr rfl rfl (zBq (t:=Y1) (qs:=[(0,[.str p3.1,.str p3.2])]) (ys:=[p3]) bs23 rfl rfl rfl rfl rfl rfl rfl rfl (wkA hX [0,1,2,3])) zDt)<|zDs (zDr rfl rfl (aV (zDG (tsX 34 rfl) rfl rfl rfl rfl) hX [0,1,2,3])<|zDr rfl rfl (aV (zDJ rfl) hX [0,1,2,3]) zDt)<|zDs (zDr rfl rfl (zBq (t:=Y1) (qs:=[(0,[.str p2.1,.str p2.2])]) (ys:=[p2]) bs23 rfl rfl rfl rfl rfl rfl rfl rfl (wkA hX [0,1,2,3]))<|zDr rfl rfl (zBq (t:=Y1) (qs:=[(0,[.str p3.1,.str p3.2])]) (ys:=[p3]) bs23 rfl rfl rfl rfl rfl rfl rfl rfl (wkA hX [0,1,2,3])) zDt)<|zDs (zDr rfl rfl (aV (zDG (tsX 34 rfl) rfl rfl rfl rfl) hX [0,1,2,3]) zDt)<|zDs (zDr rfl rfl (zBq (t:=Y1) (qs:=[(0,[.str p3.1,.str p3.2])]) (ys:=[p3]) bs23 rfl rfl rfl rfl rfl rfl rfl rfl (wkA hX [0,1,2,3,4]))<|zDr rfl rfl (aV (zDJ rfl) hX [0,1,2,3]) zDt)<|zDs (zDr rfl rfl (aV (zDG (tsX 34 rfl) rfl rfl rfl rfl) hX [0,1,2,3]) zDt)<|zDs (zDr rfl rfl (zBq (t:=Y1) (qs:=[(0,[.str p2.1,.str p2.2])]) (ys:=[p2]) bs23 rfl rfl rfl rfl rfl rfl rfl rfl (wkA hX [0,1,2,4,3])) zDt)<|zDs (zDr rfl rfl (aV (zDJ rfl) hX [0,1,2,3,4]) zDt)<|zDs (zDr rfl rfl (zBq (t:=Y1) (qs:=[(0,[.str p3.1,.str p3.2])]) (ys:=[p3]) bs23 rfl rfl rfl rfl rfl rfl rfl rfl (wkA hX [0,1,2,3,4])) zDt)<|zDs (zDr rfl rfl (aV (zDJ rfl) hX [0,1,2,3,4]) zDt)<|zDs zDt<|?_
     exact obd_n
    obtain ⟨x38,e39,hr⟩:=zA hr
    obtain ⟨x40,e41,hr⟩:=zA hr
    refine an<|sq<|rg<|V vm<|V vm<|V vm<|?_
    refine zAG (zAd (i:=2) [.map 5,.i s13.2.1,.i s13.2.2] [.mpt .i (.mp Y1 (.dat (.raw ifN))) s13.1 []] rfl rfl rfl rfl)<|V (zBD (as':=[.ptr 2 0,.i p1,.osl 4]) (Hs:=[]) (zDi e39).x ent11 rfl ⟨cv0,cv0,cv0,trivial⟩ rfl rfl rfl)<|V vm<|V vx<|V vx<|V vx<|O oa<|O oa<|O os<|O os<|V va<|nl<|an<|sq<|sq<|rg<|V vm<|V vm<|V vm<|V vm<|?_
    refine zAG (wk_frz [67,15,81] 3 rfl rfl rfl)<|zAG (pk (i:=2) (e:=F64) (js:=[5]) s13)<|?_
    refine zAK (zAP (σ:=[2]) (as':=[.ptr 2 0,.i p1,.sl Y1 [p2],.str p4]) (g12_runs e41).x ent12 rfl ⟨cv0,cv0,cv0,cv0,trivial⟩ rfl rfl rfl ?_)
    refine zAG (zAA (st':=⟨[(1,.i p1),(4,.str p4),(7,.ptr 0 0),(8,.ptr 1 0),(10,.bool false),(11,.ptr 2 0),(15,.sl Y1 [p2]),(16,.osl 4),(17,.ptr 6 0),(18,.ptr 7 0),(19,.i x38.2.2),(79,.ptr 2 0),(80,.i p1),(81,.sl Y1 [p2]),(82,.str p4),(83,.tup [.agg [.i x40.1.1,.i x40.1.2],.i x40.2.1])],[(0,.var 34 [.str p2.1,.str p2.2]),(1,.var 34 [.str p3.1,.str p3.2]),(2,.tr E64 (some x40.2.2)),(3,.dead),(4,.sl 34 Y1 [p3]),(5,.dead),(6,.var 36 [.str x38.1.1.1,.str x38.1.1.2,.str x38.1.2.1,.i x38.1.2.2.1,.bool x38.1.2.2.2]),(7,.var 38 [.i x38.2.1.1,.i x38.2.1.2])],8⟩) hX [0,1,2,3,4,5,6,7] 4 rfl rfl wS wO)<|V vm<|V vx<|V vx<|O oa<|O os<|V va<|nl<|an<|sq<|rg<|V vm<|V vne<|nl<|an<|?_
    refine cnd (fun hc42 hr=>?_) (fun hc42 hr=>?_)
    ·obtain ⟨x43,e44,hr⟩:=zA hr
     refine sq<|rg<|V (zAV (g7_runs e44).x ent7 rfl rfl)<|V va<|?_
     obtain rfl:=Option.some.inj hr
     exact nl<|an<|cr<|zAC (zAk (l':=[(10,.bool x43)]) (zAA hX [] 4 rfl rfl wS trivial) rfl ⟨rfl,trivial⟩)
    ·obtain ⟨x45,e46,hr⟩:=zA hr
     refine sk<|an<|sq<|rg<|V vm<|V vm<|V vm<|?_
     refine zAG (zAd (i:=2) [.map 9,.i x40.2.2.2.1,.i x40.2.2.2.2] [.mpt .i (.mp Y1 (.dat (.raw ifN))) x40.2.2.1 []] rfl rfl rfl rfl)<|V (zBD (as':=[.ptr 2 0,.i p1,.sl Y1 [p2]]) (Hs:=[]) (zDi e46).x ent11 rfl ⟨cv0,cv0,cv0,trivial⟩ rfl rfl rfl)<|V vm<|V vx<|V vx<|V vx<|O oa<|O oa<|O os<|O os<|V va<|nl<|an<|sq<|sq<|?_
     refine zAa [1,4,7,8,10,11,15,16,17,18,19,22,24] [(true,.i x45.2.2),(true,.bool (!decide (x45.2.2=0))),(true,.bool (!decide (x45.2.2=0))),(!(!decide (x45.2.2=0)),.ptr 10 4),(!(!decide (x45.2.2=0)),.bool x45.1.2.2.2),(true,.bool ((!decide (x45.2.2=0))||x45.1.2.2.2)),(true,.bool ((!decide (x45.2.2=0))||x45.1.2.2.2)),(!((!decide (x45.2.2=0))||x45.1.2.2.2),.ptr 10 2),(!((!decide (x45.2.2=0))||x45.1.2.2.2),.str x45.1.2.1),(!((!decide (x45.2.2=0))||x45.1.2.2.2),.str p4),(!((!decide (x45.2.2=0))||x45.1.2.2.2),.bool (!decide (x45.1.2.1=p4))),(true,.bool (((!decide (x45.2.2=0))||x45.1.2.2.2)||(!decide (x45.1.2.1=p4)))),(true,.bool (((!decide (x45.2.2=0))||x45.1.2.2.2)||(!decide (x45.1.2.1=p4)))),(!(((!decide (x45.2.2=0))||x45.1.2.2.2)||(!decide (x45.1.2.1=p4))),.ptr 10 0),(!(((!decide (x45.2.2=0))||x45.1.2.2.2)||(!decide (x45.1.2.1=p4))),.agg [.str x45.1.1.1,.str x45.1.1.2]),(!(((!decide (x45.2.2=0))||x45.1.2.2.2)||(!decide (x45.1.2.1=p4))),.agg [.str p2.1,.str p2.2]),(!(((!decide (x45.2.2=0))||x45.1.2.2.2)||(!decide (x45.1.2.1=p4))),.bool (!((decide (bstr x45.1.1.1=bstr p2.1))&&(decide (bstr x45.1.1.2=bstr p2.2))))),(true,.bool ((((!decide (x45.2.2=0))||x45.1.2.2.2)||(!decide (x45.1.2.1=p4)))||(!((decide (bstr x45.1.1.1=bstr p2.1))&&(decide (bstr x45.1.1.2=bstr p2.2))))))] [[],[0],[1],[2],[3,2],[4,2],[5],[6],[7,6],[6],[8,9,6],[10,6],[11],[12],[13,12],[12],[14,15,12],[16,12]] [17] rfl rfl rfl rfl rfl ⟨?_,?_,?_,?_,?_,?_,?_,?_,?_,?_,?_,?_,?_,?_,?_,?_,?_,?_,trivial⟩ (zAD ⟨rfl,trivial⟩) ?_
     ·exact oB wm
     ·exact oB wne
     ·exact oB wm
     ·exact oB wfp
     ·exact oB wlp
     ·exact zBr
     ·exact oB wm
     ·exact oB wfp
     ·exact oB wlp
     ·exact oB wm
     ·exact oB wns
     ·exact zBr
     ·exact oB wm
     ·exact oB wfp
     ·exact oB wlP
     ·exact oB wlP
     ·exact zAr ⟨rfl,rfl,rfl,_,rfl,rfl⟩ (fun hg=>zAD ⟨hg,hg,rfl,trivial⟩) (fun hg=>av_neqA (r:=(decide (bstr x45.1.1.1=bstr p2.1))&&(decide (bstr x45.1.1.2=bstr p2.2))) eq34 rfl rfl rfl rfl rfl rfl)
     ·exact zBr
     refine an<|?_
     refine cnd (fun hc47 hr=>?_) (fun hc47 hr=>?_)
     ·refine sq<|rg<|V va<|?_
      obtain rfl:=Option.some.inj hr
      exact nl<|an<|cr<|zAC (zAk (l':=[(10,.bool false)]) (zAA hX [] 4 rfl rfl wS trivial) rfl ⟨rfl,trivial⟩)
     ·obtain ⟨o48,e49,hr⟩:=zA hr
      refine sk<|an<|?_
      refine zAy (S:=Unit) (R:=Unit) (fun s=>match s with | ()=>(⟨[(1,.i p1),(4,.str p4),(10,.bool false),(11,.ptr 0 0),(15,.sl Y1 [p2]),(22,.ptr 1 0)],[(0,.tr E64 (some x40.2.2)),(1,.var 36 [.str x45.1.1.1,.str x45.1.1.2,.str x45.1.2.1,.i x45.1.2.2.1,.bool x45.1.2.2.2])],2⟩ : AS)) (fun r e st=>match r with | ()=>e=.ret∧Wk X st ⟨[(10,.bool false)],[],0⟩) e49 (fun hr=>?_) ?_ ?_
      ·refine sq<|rg<|zAG (zAA (st':=⟨[(1,.i p1),(4,.str p4),(7,.ptr 0 0),(8,.ptr 1 0),(10,.bool false),(11,.ptr 2 0),(15,.sl Y1 [p2]),(16,.osl 4),(17,.ptr 6 0),(18,.ptr 7 0),(19,.i x38.2.2),(22,.ptr 10 0)],[(0,.var 34 [.str p2.1,.str p2.2]),(1,.var 34 [.str p3.1,.str p3.2]),(2,.var 64 [.map 9,.i x40.2.2.2.1,.i x40.2.2.2.2]),(3,.dead),(4,.sl 34 Y1 [p3]),(5,.dead),(6,.var 36 [.str x38.1.1.1,.str x38.1.1.2,.str x38.1.2.1,.i x38.1.2.2.1,.bool x38.1.2.2.2]),(7,.var 38 [.i x38.2.1.1,.i x38.2.1.2]),(8,.var 38 [.i x40.1.1,.i x40.1.2]),(9,.mpt .i (.mp Y1 (.dat (.raw ifN))) x40.2.2.1 []),(10,.var 36 [.str x45.1.1.1,.str x45.1.1.2,.str x45.1.2.1,.i x45.1.2.2.1,.bool x45.1.2.2.2]),(11,.var 38 [.i x45.2.1.1,.i x45.2.1.2])],12⟩) hX [0,1,2,3,4,5,6,7,8,9,10,11] 4 rfl rfl wS wO)<|V vlP<|V vlP<|?_
       refine V (av_neqA (r:=(decide (bstr p2.1=bstr p3.1))&&(decide (bstr p2.2=bstr p3.2))) eq34 rfl rfl rfl rfl rfl rfl)<|nl<|an<|?_
       refine cnd (fun hc50 hr=>?_) (fun hc50 hr=>?_)
       ·obtain ⟨x51,e52,hr⟩:=zA hr
        refine sq<|rg<|V vm<|V vm<|V vm<|?_
        refine V (zBD (as':=[.ptr 2 0,.i p1,.osl 4]) (Hs:=[]) (zDi e52).x ent11 rfl ⟨cv0,cv0,cv0,trivial⟩ rfl rfl rfl)<|V vm<|V vx<|V vx<|V vx<|O oa<|O oa<|O os<|O os<|V va<|nl<|an<|sq<|?_
        refine zAa [1,4,10,11,15,17,18,19,22,25,26,27] [(true,.agg [.str x51.1.1.1,.str x51.1.1.2,.str x51.1.2.1,.i x51.1.2.2.1,.bool x51.1.2.2.2]),(true,.agg [.str x38.1.1.1,.str x38.1.1.2,.str x38.1.2.1,.i x38.1.2.2.1,.bool x38.1.2.2.2]),(true,.bool (!((decide (bstr x51.1.1.1=bstr x38.1.1.1))&&((decide (bstr x51.1.1.2=bstr x38.1.1.2))&&((decide (bstr x51.1.2.1=bstr x38.1.2.1))&&((decide (x51.1.2.2.1=x38.1.2.2.1))&&(decide (x51.1.2.2.2=x38.1.2.2.2)))))))),(true,.bool (!((decide (bstr x51.1.1.1=bstr x38.1.1.1))&&((decide (bstr x51.1.1.2=bstr x38.1.1.2))&&((decide (bstr x51.1.2.1=bstr x38.1.2.1))&&((decide (x51.1.2.2.1=x38.1.2.2.1))&&(decide (x51.1.2.2.2=x38.1.2.2.2)))))))),(!(!((decide (bstr x51.1.1.1=bstr x38.1.1.1))&&((decide (bstr x51.1.1.2=bstr x38.1.1.2))&&((decide (bstr x51.1.2.1=bstr x38.1.2.1))&&((decide (x51.1.2.2.1=x38.1.2.2.1))&&(decide (x51.1.2.2.2=x38.1.2.2.2))))))),.agg [.i x51.2.1.1,.i x51.2.1.2]),(!(!((decide (bstr x51.1.1.1=bstr x38.1.1.1))&&((decide (bstr x51.1.1.2=bstr x38.1.1.2))&&((decide (bstr x51.1.2.1=bstr x38.1.2.1))&&((decide (x51.1.2.2.1=x38.1.2.2.1))&&(decide (x51.1.2.2.2=x38.1.2.2.2))))))),.agg [.i x38.2.1.1,.i x38.2.1.2]),(!(!((decide (bstr x51.1.1.1=bstr x38.1.1.1))&&((decide (bstr x51.1.1.2=bstr x38.1.1.2))&&((decide (bstr x51.1.2.1=bstr x38.1.2.1))&&((decide (x51.1.2.2.1=x38.1.2.2.1))&&(decide (x51.1.2.2.2=x38.1.2.2.2))))))),.bool (!((decide (x51.2.1.1=x38.2.1.1))&&(decide (x51.2.1.2=x38.2.1.2))))),(true,.bool ((!((decide (bstr x51.1.1.1=bstr x38.1.1.1))&&((decide (bstr x51.1.1.2=bstr x38.1.1.2))&&((decide (bstr x51.1.2.1=bstr x38.1.2.1))&&((decide (x51.1.2.2.1=x38.1.2.2.1))&&(decide (x51.1.2.2.2=x38.1.2.2.2)))))))||(!((decide (x51.2.1.1=x38.2.1.1))&&(decide (x51.2.1.2=x38.2.1.2)))))),(true,.bool ((!((decide (bstr x51.1.1.1=bstr x38.1.1.1))&&((decide (bstr x51.1.1.2=bstr x38.1.1.2))&&((decide (bstr x51.1.2.1=bstr x38.1.2.1))&&((decide (x51.1.2.2.1=x38.1.2.2.1))&&(decide (x51.1.2.2.2=x38.1.2.2.2)))))))||(!((decide (x51.2.1.1=x38.2.1.1))&&(decide (x51.2.1.2=x38.2.1.2)))))),(!((!((decide (bstr x51.1.1.1=bstr x38.1.1.1))&&((decide (bstr x51.1.1.2=bstr x38.1.1.2))&&((decide (bstr x51.1.2.1=bstr x38.1.2.1))&&((decide (x51.1.2.2.1=x38.1.2.2.1))&&(decide (x51.1.2.2.2=x38.1.2.2.2)))))))||(!((decide (x51.2.1.1=x38.2.1.1))&&(decide (x51.2.1.2=x38.2.1.2))))),.i x51.2.2),(!((!((decide (bstr x51.1.1.1=bstr x38.1.1.1))&&((decide (bstr x51.1.1.2=bstr x38.1.1.2))&&((decide (bstr x51.1.2.1=bstr x38.1.2.1))&&((decide (x51.1.2.2.1=x38.1.2.2.1))&&(decide (x51.1.2.2.2=x38.1.2.2.2)))))))||(!((decide (x51.2.1.1=x38.2.1.1))&&(decide (x51.2.1.2=x38.2.1.2))))),.i x38.2.2),(!((!((decide (bstr x51.1.1.1=bstr x38.1.1.1))&&((decide (bstr x51.1.1.2=bstr x38.1.1.2))&&((decide (bstr x51.1.2.1=bstr x38.1.2.1))&&((decide (x51.1.2.2.1=x38.1.2.2.1))&&(decide (x51.1.2.2.2=x38.1.2.2.2)))))))||(!((decide (x51.2.1.1=x38.2.1.1))&&(decide (x51.2.1.2=x38.2.1.2))))),.bool (!decide (x51.2.2=x38.2.2))),(true,.bool (((!((decide (bstr x51.1.1.1=bstr x38.1.1.1))&&((decide (bstr x51.1.1.2=bstr x38.1.1.2))&&((decide (bstr x51.1.2.1=bstr x38.1.2.1))&&((decide (x51.1.2.2.1=x38.1.2.2.1))&&(decide (x51.1.2.2.2=x38.1.2.2.2)))))))||(!((decide (x51.2.1.1=x38.2.1.1))&&(decide (x51.2.1.2=x38.2.1.2)))))||(!decide (x51.2.2=x38.2.2))))] [[],[],[0,1],[2],[3],[3],[4,5,3],[6,3],[7],[8],[8],[9,10,8],[11,8]] [12] rfl rfl rfl rfl rfl ⟨?_,?_,?_,?_,?_,?_,?_,?_,?_,?_,?_,?_,?_,trivial⟩ (zAD ⟨rfl,trivial⟩) ?_
        ·exact oB wlP
        ·exact oB wlP
        ·exact zAr rfl (fun hg=>zAD ⟨rfl,rfl,trivial⟩) (fun hg=>av_neqA (r:=(decide (bstr x51.1.1.1=bstr x38.1.1.1))&&((decide (bstr x51.1.1.2=bstr x38.1.1.2))&&((decide (bstr x51.1.2.1=bstr x38.1.2.1))&&((decide (x51.1.2.2.1=x38.1.2.2.1))&&(decide (x51.1.2.2.2=x38.1.2.2.2)))))) eq36 rfl rfl rfl rfl rfl rfl)
        ·exact oB wm
        ·exact oB wlP
        ·exact oB wlP
        ·exact zAr ⟨rfl,rfl,rfl,_,rfl,rfl⟩ (fun hg=>zAD ⟨hg,hg,rfl,trivial⟩) (fun hg=>av_neqA (r:=(decide (x51.2.1.1=x38.2.1.1))&&(decide (x51.2.1.2=x38.2.1.2))) eq38 rfl rfl rfl rfl rfl rfl)
        ·exact zBr
        ·exact oB wm
        ·exact oB wm
        ·exact oB wm
        ·exact oB wne
        ·exact zBr
        refine an<|?_
        refine cnd (fun hc53 hr=>?_) (fun hc53 hr=>?_)
        ·refine sq<|rg<|V va<|?_
         obtain rfl:=Option.some.inj hr
         exact nl<|an<|cr<|⟨rfl,(zAA hX [] 4 rfl rfl wS trivial)⟩
        ·obtain rfl:=Option.some.inj hr
         exact zAv ((Wk.trans (pk (i:=2) (e:=F64) (js:=[9]) x40.2.2) (zAA hX [2,10] 4 rfl rfl wS wO)))
       ·obtain rfl:=Option.some.inj hr
        exact zAv ((Wk.trans (pk (i:=2) (e:=F64) (js:=[9]) x40.2.2) (zAA hX [2,10] 4 rfl rfl wS wO)))
      ·rintro _ rfl
       refine sq<|sq<|rg<|zAG (zAA (st':=⟨[(1,.i p1),(4,.str p4),(10,.bool false),(11,.ptr 0 0),(15,.sl Y1 [p2]),(22,.ptr 1 0)],[(0,.tr E64 (some x40.2.2)),(1,.var 36 [.str x45.1.1.1,.str x45.1.1.2,.str x45.1.2.1,.i x45.1.2.2.1,.bool x45.1.2.2.2])],2⟩) hX [0,1] 4 rfl rfl wS wO)<|V vm<|V vm<|V vm<|V vm<|?_
       obtain ⟨h54,hr⟩:=zAN hr
       obtain ⟨x55,e56,hr⟩:=zA hr
       refine V (av_adds rfl rfl h54)<|?_
       refine zAK (zAP (σ:=[0]) (as':=[.ptr 0 0,.i p1,.sl Y1 [p2],.str (p4++([120] : Str))]) (g13_runs e56).x ent13 rfl ⟨cv0,cv0,cv0,cv0,trivial⟩ rfl rfl rfl ?_)
       refine V vm<|V vx<|V vx<|O oa<|O os<|V va<|nl<|an<|sq<|rg<|V vm<|V vne<|nl<|an<|?_
       refine cnd (fun hc57 hr=>?_) (fun hc57 hr=>?_)
       ·refine sq<|?_
        obtain ⟨h58,hr⟩:=zAN hr
        refine zAa [1,4,11,15,22] [(true,.str p4),(true,.i (List.length p4 : Int)),(true,.bool (decide (65536≤(List.length p4 : Int)))),(true,.bool (decide (65536≤(List.length p4 : Int)))),(decide (65536≤(List.length p4 : Int)),.bool ((g7).getD default)),(true,.bool ((decide (65536≤(List.length p4 : Int)))&&((g7).getD default))),(true,.bool ((decide (65536≤(List.length p4 : Int)))&&((g7).getD default)))] [[],[0],[1],[2],[3],[4,3],[5]] [6] rfl rfl rfl rfl rfl ⟨?_,?_,?_,?_,?_,?_,?_,trivial⟩ (zAD ⟨rfl,trivial⟩) ?_
        ·exact oB wm
        ·exact oB wnt
        ·exact oB wge
        ·exact oB wm
        ·exact zAr ⟨rfl,rfl,rfl,_,rfl,rfl⟩ (fun hg=>zAD ⟨rfl,trivial⟩) (fun hg=>zAV (g7_runs (zAz h58 hg)).x ent7 rfl rfl)
        ·exact zBe
        ·exact oB wa
        obtain rfl:=Option.some.inj hr
        exact zAZ (zAw (zAC (zAk (l':=[(10,.bool ((decide (65536≤(List.length p4 : Int)))&&((g7).getD default)))]) (zAA hX [] 4 rfl rfl wS trivial) rfl ⟨rfl,trivial⟩)))
       ·obtain ⟨x59,e60,hr⟩:=zA hr
        refine sk<|an<|sq<|sq<|rg<|V vm<|V vm<|V vm<|?_
        refine zAG (zAd (i:=0) [.map 3,.i x55.2.2.2.1,.i x55.2.2.2.2] [.mpt .i (.mp Y1 (.dat (.raw ifN))) x55.2.2.1 []] rfl rfl rfl rfl)<|V (zBD (as':=[.ptr 0 0,.i p1,.sl Y1 [p2]]) (Hs:=[]) (zDi e60).x ent11 rfl ⟨cv0,cv0,cv0,trivial⟩ rfl rfl rfl)<|?_
        refine zAG (zAA (st':=⟨[(1,.i p1),(4,.str p4),(10,.bool false),(11,.ptr 0 0),(15,.sl Y1 [p2]),(22,.ptr 1 0),(157,.ptr 0 0),(158,.i p1),(159,.sl Y1 [p2]),(160,.tup [.agg [.str x59.1.1.1,.str x59.1.1.2,.str x59.1.2.1,.i x59.1.2.2.1,.bool x59.1.2.2.2],.agg [.i x59.2.1.1,.i x59.2.1.2],.i x59.2.2])],[(0,.var 64 [.map 3,.i x55.2.2.2.1,.i x55.2.2.2.2]),(1,.var 36 [.str x45.1.1.1,.str x45.1.1.2,.str x45.1.2.1,.i x45.1.2.2.1,.bool x45.1.2.2.2]),(2,.var 38 [.i x55.1.1,.i x55.1.2]),(3,.mpt .i (.mp Y1 (.dat (.raw ifN))) x55.2.2.1 [])],4⟩) hX [0,1,2,3] 4 rfl rfl wS wO)<|V vm<|V vx<|V vx<|V vx<|O os<|V va<|nl<|an<|sq<|?_
        obtain ⟨h61,hr⟩:=zAN hr
        refine zAa [1,4,10,11,15,22,24] [(true,.i x59.2.2),(true,.bool (!decide (x59.2.2=0))),(true,.bool (!decide (x59.2.2=0))),(!(!decide (x59.2.2=0)),.ptr 1 2),(!(!decide (x59.2.2=0)),.str x59.1.2.1),(!(!decide (x59.2.2=0)),.str p4),(!(!decide (x59.2.2=0)),.str (p4++([120] : Str))),(!(!decide (x59.2.2=0)),.bool (!decide (x59.1.2.1=(p4++([120] : Str))))),(true,.bool ((!decide (x59.2.2=0))||(!decide (x59.1.2.1=(p4++([120] : Str))))))] [[],[0],[1],[2],[3,2],[2],[5,2],[4,6,2],[7,2]] [8] rfl rfl rfl rfl rfl ⟨?_,?_,?_,?_,?_,?_,?_,?_,?_,trivial⟩ (zAD ⟨rfl,trivial⟩) ?_
        ·exact oB wm
        ·exact oB wne
        ·exact oB wm
        ·exact oB wfp
        ·exact oB wlp
        ·exact oB wm
        ·exact zAr ⟨rfl,rfl,rfl,_,rfl,rfl⟩ (fun hg=>zAD ⟨hg,rfl,trivial⟩) (fun hg=>av_adds rfl rfl (imp_g h61 hg))
        ·exact oB wns
        ·exact zBr
        refine an<|?_
        refine cnd (fun hc62 hr=>?_) (fun hc62 hr=>?_)
        ·refine sq<|rg<|V va<|?_
         obtain rfl:=Option.some.inj hr
         exact nl<|an<|cr<|zAC (zAk (l':=[(10,.bool false)]) (zAA hX [] 4 rfl rfl wS trivial) rfl ⟨rfl,trivial⟩)
        ·obtain ⟨x63,e64,hr⟩:=zA hr
         refine sk<|an<|sq<|sq<|rg<|V vm<|V vm<|V vm<|?_
         refine zAG (pk (i:=0) (e:=F64) (js:=[3]) x55.2.2)<|?_
         refine zAK (zAP (σ:=[0]) (as':=[.ptr 0 0,.i p1,.sl Y1 [p2]]) (g14_runs e64).x ent14 rfl ⟨cv0,cv0,cv0,trivial⟩ rfl rfl rfl ?_)
         refine zAG (zAA (st':=⟨[(1,.i p1),(10,.bool false),(11,.ptr 0 0),(15,.sl Y1 [p2]),(174,.ptr 0 0),(175,.i p1),(176,.sl Y1 [p2]),(177,.tup [.agg [.i x63.1.1,.i x63.1.2],.i x63.2.1])],[(0,.tr E64 (some x63.2.2)),(1,.var 36 [.str x59.1.1.1,.str x59.1.1.2,.str x59.1.2.1,.i x59.1.2.2.1,.bool x59.1.2.2.2]),(2,.var 38 [.i x55.1.1,.i x55.1.2]),(3,.dead)],4⟩) hX [0,1,2,3] 4 rfl rfl wS wO)<|V vm<|V vx<|V vx<|O oa<|O os<|V va<|nl<|an<|sq<|rg<|V vm<|V vne<|nl<|an<|?_
         refine cnd (fun hc65 hr=>?_) (fun hc65 hr=>?_)
         ·refine sq<|rg<|V va<|?_
          obtain rfl:=Option.some.inj hr
          exact nl<|an<|cr<|zAC (zAk (l':=[(10,.bool false)]) (zAA hX [] 4 rfl rfl wS trivial) rfl ⟨rfl,trivial⟩)
         ·obtain ⟨x66,e67,hr⟩:=zA hr
          refine sk<|an<|sq<|rg<|V vm<|V vm<|V vm<|?_
          refine zAG (zAd (i:=0) [.map 5,.i x63.2.2.2.1,.i x63.2.2.2.2] [.mpt .i (.mp Y1 (.dat (.raw ifN))) x63.2.2.1 []] rfl rfl rfl rfl)<|V (zBD (as':=[.ptr 0 0,.i p1,.sl Y1 [p2]]) (Hs:=[]) (zDi e67).x ent11 rfl ⟨cv0,cv0,cv0,trivial⟩ rfl rfl rfl)<|V vm<|V vx<|V vx<|V vx<|O oa<|O oa<|O os<|O os<|V va<|nl<|an<|sq<|?_
          obtain ⟨h68,hr⟩:=zAN hr
          refine zAa [33,24] [(true,.i x66.2.2),(true,.bool (decide (x66.2.2=8))),(true,.bool (decide (x66.2.2=8))),(decide (x66.2.2=8),.agg [.i x66.2.1.1,.i x66.2.1.2]),(decide (x66.2.2=8),.agg [.i 0,.i 1]),(decide (x66.2.2=8),.bool ((decide (x66.2.1.1=0))&&(decide (x66.2.1.2=1)))),(true,.bool ((decide (x66.2.2=8))&&((decide (x66.2.1.1=0))&&(decide (x66.2.1.2=1))))),(true,.bool ((decide (x66.2.2=8))&&((decide (x66.2.1.1=0))&&(decide (x66.2.1.2=1))))),((decide (x66.2.2=8))&&((decide (x66.2.1.1=0))&&(decide (x66.2.1.2=1))),.bool ((g7).getD default)),(true,.bool (((decide (x66.2.2=8))&&((decide (x66.2.1.1=0))&&(decide (x66.2.1.2=1))))&&((g7).getD default))),(true,.bool (((decide (x66.2.2=8))&&((decide (x66.2.1.1=0))&&(decide (x66.2.1.2=1))))&&((g7).getD default)))] [[],[0],[1],[2],[2],[3,4,2],[5,2],[6],[7],[8,7],[9]] [10] rfl rfl rfl rfl rfl ⟨?_,?_,?_,?_,?_,?_,?_,?_,?_,?_,?_,trivial⟩ (zAD ⟨rfl,trivial⟩) ?_
          ·exact oB wm
          ·exact oB weq
          ·exact oB wm
          ·exact oB wlP
          ·exact zAr ⟨rfl,rfl,rfl,_,rfl,rfl⟩ (fun hg=>zAD ⟨rfl,trivial⟩) (fun hg=>zAs (qs:=[(0,[.i 0]),(1,[.i 1])]) (cs:=[.i 0,.i 1]) bt38 rfl rfl rfl)
          ·exact zAr ⟨rfl,rfl,rfl,_,rfl,rfl⟩ (fun hg=>zAD ⟨hg,hg,rfl,trivial⟩) (fun hg=>av_eqlA (r:=(decide (x66.2.1.1=0))&&(decide (x66.2.1.2=1))) eq38 rfl rfl rfl rfl rfl rfl)
          ·exact zBe
          ·exact oB wm
          ·exact zAr ⟨rfl,rfl,rfl,_,rfl,rfl⟩ (fun hg=>zAD ⟨rfl,trivial⟩) (fun hg=>zAV (g7_runs (zAz h68 hg)).x ent7 rfl rfl)
          ·exact zBe
          ·exact oB wa
          obtain rfl:=Option.some.inj hr
          exact zAZ (zAw (zAk (l':=[(10,.bool (((decide (x66.2.2=8))&&((decide (x66.2.1.1=0))&&(decide (x66.2.1.2=1))))&&((g7).getD default)))]) (zAA hX [] 4 rfl rfl wS trivial) rfl ⟨rfl,trivial⟩))
      ·rintro r rfl e st hne hx
       obtain ⟨rfl,hw⟩:=hx
       obtain rfl:=Option.some.inj hr
       exact zAk (l':=[(10,.bool false)]) (Wk.trans hw (zAA hX [] 4 rfl rfl wS trivial)) rfl ⟨rfl,trivial⟩
   ·exact hx.elim
  ·rintro i11 ⟨s13,s14⟩ o ho
   refine sq<|rg<|V vls<|nl<|an<|sq<|?_
   refine zAO (b:=decide (i11 < (List.length p0 : Int))) rfl (fun hc69=>?_) (fun hc69=>?_)
   ·obtain ⟨q,hr,rfl⟩:=zA7 hc69 ho
    obtain ⟨o72,e73,hr⟩:=zA hr
    refine sk<|an<|?_
    refine zAy (S:=(ZP)×(ZQ)) (R:=Unit) (fun s=>match s with | (s70,s71)=>(⟨[(1,.i p1),(4,.str p4),(7,.ptr 0 0),(8,.ptr 1 0),(10,.bool false),(11,.ptr 2 0),(12,.ptr 3 0),(52,.sl Y2 p0),(53,.i (List.length p0 : Int)),(54,.i i11)],[(0,.var 34 [.str p2.1,.str p2.2]),(1,.var 34 [.str p3.1,.str p3.2]),(2,.tr E64 (some s70)),(3,.tr E70 (some s71))],4⟩ : AS)) (fun _ _ _=>False) e73 (fun hr=>?_) ?_ ?_
    ·obtain ⟨x74,e75,hr⟩:=zA hr
     refine bl<|sq<|rg<|zAG (zAA (st':=⟨[(1,.i p1),(4,.str p4),(7,.ptr 0 0),(8,.ptr 1 0),(10,.bool false),(11,.ptr 2 0),(12,.ptr 3 0),(52,.sl Y2 p0),(53,.i (List.length p0 : Int)),(54,.i i11)],[(0,.var 34 [.str p2.1,.str p2.2]),(1,.var 34 [.str p3.1,.str p3.2]),(2,.tr E64 (some s13)),(3,.tr E70 (some s14))],4⟩) hX [0,1,2,3] 4 rfl rfl wS wO)<|V (zAQ (t:=Y2) (e:=x74) (undX 22 rfl) (szX 26 rfl) rfl rfl e75)<|V vlR<|O oa<|O os<|nl<|an<|sq<|rg<|V vfp<|V vlp<|V vne<|nl<|an<|?_
     refine cnd (fun hc76 hr=>?_) (fun hc76 hr=>?_)
     ·obtain ⟨x77,e78,hr⟩:=zA hr
      refine rg<|V vm<|V vm<|V vlP<|?_
      refine zAK (zAP (σ:=[2,3]) (as':=[.ptr 2 0,.ptr 3 0,.agg [.i x74.1,.i x74.2.1,.i x74.2.2.1,.i x74.2.2.2.1,.sl Y1 x74.2.2.2.2.1,.str x74.2.2.2.2.2]]) (g10_runs e78).x ent10 rfl ⟨cv0,cv0,cv0,trivial⟩ rfl rfl rfl ?_)
      obtain rfl:=Option.some.inj hr
      exact zAJ (zAS ((zAA hX [0,1,2,3] 4 rfl rfl wS wO)))
     ·obtain rfl:=Option.some.inj hr
      exact zAv (zAS ((zAA hX [0,1,2,3] 4 rfl rfl wS wO)))
    ·rintro ⟨s70,s71⟩ rfl
     refine rg<|V vad<|V vm<|?_
     obtain rfl:=Option.some.inj hr
     exact zAJ ((zAA hX [0,1,2,3] 4 rfl rfl wS wO))
    ·exact fun r h e st hne hx=>hx.elim
   ·obtain rfl:=zA8 hc69 ho
    exact zAH (zAF (⟨rfl,(zAA hX [0,1,2] 4 rfl rfl wS wO)⟩))
end Go.Ab
set_option linter.unusedSimpArgs false
namespace Go.Ab
open Go
theorem ix_of {α:Type}{x:List α}{i:Nat}{e:α}(h:x[i]?=some e) : ix x (i:Int)=some e:=by
 unfold ix; rw [if_pos (by omega)]; simpa using h
def lfold {α S R:Type}(h:α→S→Option (S ⊕ R)) : List α→S→Option (S ⊕ R)
 | [],s=>some (.inl s)
 | x::xs,s=>(h x s).bind fun o=>match o with
  | .inl s'=>lfold h xs s'
  | .inr r=>some (.inr r)
theorem rng_list {α S R:Type}{g:Int→S→Option (S ⊕ R)}{h:α→S→Option (S ⊕ R)}{xs:List α}(hg:∀ (i:Nat) x s,xs[i]?=some x→g (i:Int) s=h x s) (s:S) : rng g xs.length 0 s=lfold h xs s:=by
 have key : ∀ (k i:Nat) (s:S),i+k=xs.length→rng g k (i:Int) s=lfold h (xs.drop i) s:=by
  intro k
  induction k with
  | zero=>intro i s hi; rw [List.drop_of_length_le (by omega)]; rfl
  | succ k ih =>
   intro i s hi
   have hl : i < xs.length:=by omega
   rw [List.drop_eq_getElem_cons hl]
   simp only [rng,lfold,hg i _ s (List.getElem?_eq_getElem hl)]
   congr 1
   funext o
   cases o with
   | inl s' =>
    have:=ih (i+1) s' (by omega)
    simpa using this
   | inr r=>rfl
 simpa using key xs.length 0 s (by omega)

def badB (b:UInt8) : Bool:=decide (((b.toNat : Nat) : Int) < 33)||decide (126 < ((b.toNat : Nat) : Int))
theorem idx_any (l:Str) : ∀ (f pos:Nat),l.length≤pos+f→decide (0≤Lib.idxFuncFrom nonP true (bstr l) f pos)=(l.drop pos).any badB:=by
 intro f
 induction f with
 | zero=>intro pos h; rw [List.drop_of_length_le (by omega)]; simp [Lib.idxFuncFrom]
 | succ f ih =>
  intro pos h
  by_cases hp : pos < l.length
  ·have hs : pos < (bstr l).size:=by rw [zDb]; exact hp
   obtain ⟨b,hd0,hb⟩ : ∃ b,l.drop pos=b::l.drop (pos+1)∧(bstr l)[pos]'hs=b:=⟨_,List.drop_eq_getElem_cons hp,by
    show (bstr l).data[pos]'_=_
    simp [bstr]⟩
   rw [hd0,List.any_cons]
   simp only [Lib.idxFuncFrom,hs,if_true]
   by_cases h7 : b.toNat < 128
   ·have hd:=decode_ascii (bstr l) pos hs (by rw [hb]; exact h7)
    rw [hd,hb]
    simp only
    by_cases h8 : nonP b.toNat=true
    ·rw [if_pos h8]
     have : badB b=true:=by
      simp only [nonP,badB,Bool.or_eq_true,decide_eq_true_eq] at h8 ⊢
      omega
     rw [this]; simp
    ·rw [if_neg h8]
     have : badB b=false:=by
      rw [Bool.eq_false_iff]
      intro hc
      apply h8
      simp only [nonP,badB,Bool.or_eq_true,decide_eq_true_eq] at hc ⊢
      omega
     rw [this,ih (pos+1) (by omega)]; simp
   ·have hd:=decode_high (bstr l) pos hs (by rw [hb]; omega)
    have : nonP (Utf8.decode (bstr l) pos).1=true:=by
     simp only [nonP,Bool.or_eq_true,decide_eq_true_eq]; right; omega
    rw [if_pos this]
    have : badB b=true:=by simp only [badB,Bool.or_eq_true,decide_eq_true_eq]; right; omega
    rw [this]; simp
  ·have hs : ¬ pos < (bstr l).size:=by rw [zDb]; exact hp
   rw [List.drop_of_length_le (by omega)]
   simp [Lib.idxFuncFrom,hs]
theorem fCF_eq (l:Str) : fCF l=some (l.any badB):=by
 unfold fCF Lib.idxFunc
 rw [idx_any l _ 0 (by rw [zDb]; omega)]; simp
def tOk (x:Str) : Bool:=decide ((x.length : Int)≤32)&&!x.any badB
def pOk (c:Str×Str) : Bool:=tOk c.1&&tOk c.2&&!decide (c=([],[]))
theorem bstr_dec (s t:Str) : decide (bstr s=bstr t)=decide (s=t):=by
 by_cases h : s=t
 ·subst h; simp
 ·have : bstr s≠bstr t:=fun e=>h (bstr_inj e)
  simp [h,this]
theorem two_empty (c:Str×Str) : (decide (c.1=[])&&decide (c.2=[]))=decide (c=([],[])):=by
 obtain ⟨a,b⟩:=c
 by_cases h1 : a=[] <;> by_cases h2 : b=[] <;> simp [h1,h2]
theorem f21_eq (c:Str×Str) : f21 c=some (pOk c):=by
 have h : ∀ (i:Nat) x (s:Unit),[c.1,c.2][i]?=some x→f21_b0 c (i:Int) s=(bif tOk x then some (.inl ()) else some (.inr ()) : Option (Unit ⊕ Unit)):=by
  intro i x s hx
  simp only [f21_b0,ix_of hx,Option.bind_some,fCF_eq,Option.isSome_some,Bool.or_true,cond_true,Option.getD_some,tOk]
  cases ha : x.any badB <;> by_cases hb : (32:Int) < x.length
  ·have : ¬ (x.length : Int)≤32:=by omega
   simp [hb,this]
  ·have : (x.length : Int)≤32:=by omega
   simp [hb,this]
  ·simp [hb]
  ·simp [hb]
 unfold f21
 rw [show Int.toNat 2=[c.1,c.2].length from rfl,rng_list h]
 simp only [lfold,pOk,bstr_dec,two_empty]
 cases tOk c.1 <;> cases tOk c.2 <;> simp
theorem lfold_bad (l:Str) : lfold (fun (b:UInt8) (_:Unit)=>(bif badB b then some (.inr ()) else some (.inl ()) : Option (Unit ⊕ Unit))) l ()=bif l.any badB then some (.inr ()) else some (.inl ()):=by
 induction l with
 | nil=>rfl
 | cons b l ih =>
  simp only [lfold,List.any_cons]
  cases badB b
  ·simpa using ih
  ·simp
theorem f22_eq (c:Str×Str) (hc:c.1.length≤100000∧c.2.length≤100000) : f22 c=some (pOk c):=by
 have hb : ∀ (x:Str) (i:Nat) b (s:Unit),x[i]?=some b→f22_b1 x (i:Int) s=(bif badB b then some (.inr ()) else some (.inl ()) : Option (Unit ⊕ Unit)):=by
  intro x i b s hx
  simp only [f22_b1,ix_of hx,Option.bind_some,Option.isSome_some,Bool.or_true,cond_true,Option.getD_some,badB]
 have h : ∀ (i:Nat) x (s:Unit),[c.1,c.2][i]?=some x→f22_b0 c (i:Int) s=(bif tOk x then some (.inl ()) else some (.inr ()) : Option (Unit ⊕ Unit)):=by
  intro i x s hx
  have hl : x.length≤100000:=by
   have:=List.mem_of_getElem? hx
   simp at this
   rcases this with rfl | rfl
   ·exact hc.1
   ·exact hc.2
  simp only [f22_b0,ix_of hx,Option.bind_some]
  rw [show Int.toNat (List.length x : Int)=x.length by simp,rng_list (hb x),lfold_bad]
  have h2 : decide ((x.length : Int)≤9223372036854775807)=true:=by simp; omega
  rw [h2]
  simp only [cond_true,tOk]
  cases ha : x.any badB <;> by_cases hb : (32:Int) < x.length
  ·have : ¬ (x.length : Int)≤32:=by omega
   simp [hb,this]
  ·have : (x.length : Int)≤32:=by omega
   simp [hb,this]
  ·simp [hb]
  ·simp [hb]
 unfold f22
 rw [show Int.toNat (List.length [c.1,c.2] : Int)=[c.1,c.2].length from rfl,rng_list h]
 have h3 : (!decide (c.1=([] : Str))||!decide (c.2=([] : Str)))=!decide (c=([],[])):=by rw [← two_empty]; simp
 simp only [lfold,pOk,h3]
 cases tOk c.1 <;> cases tOk c.2 <;> simp
def vOk (n:ZN) : Bool:=n.all pOk&&(decide (1≤(n.length : Int))&&decide ((n.length : Int)≤20))
theorem f19_eq (n:ZN) : f19 n (fun y1=>f20 y1)=some (n.any fun c=>!pOk c):=by
 have h : Tot (f32 n (fun y1=>f20 y1)) fun z=>decide (0≤z)=n.any fun c=>!pOk c:=by
  unfold f32
  rw [zBS]
  refine Tot.bind (zA1 (fun i _=>(n.take i).any (fun c=>!pOk c)=false) (fun r:Int=>0≤r∧n.any (fun c=>!pOk c)=true) (by simp) fun i s hi hs=>?_) ?_
  ·refine zA2 hi ?_
   simp only [f20,f21_eq,Option.bind_some]
   refine zAR (fun hc=>zAB (.inr ⟨_,rfl,by omega,?_⟩)) (fun hc=>zAB (.inl ⟨_,rfl,?_⟩))
   ·rw [List.any_eq_true]; exact ⟨_,zBV hi,hc⟩
   ·rw [zCx default hi,List.any_append,hs]; simpa using hc
  ·rintro o (⟨s,rfl,h⟩ | ⟨r,rfl,h1,h2⟩)
   ·rw [List.take_of_length_le (Nat.le_refl _)] at h
    exact zAB (by rw [h]; rfl)
   ·exact zAB (by rw [h2]; simpa using h1)
 obtain ⟨z,h1,h2⟩:=h
 simp only [f19,h1,Option.bind_some,h2]
theorem f9_eq (n:ZN) : f9 n=some (vOk n):=by
 unfold f9
 rw [f19_eq]
 simp only [Option.isSome_some,Bool.or_true,cond_true,Option.getD_some,vOk,List.all_eq_not_any_not]
 rw [Bool.and_comm]
theorem f10_eq (n:ZN) (hn:∀ c∈n,c.1.length≤100000∧c.2.length≤100000) : f10 n=some (vOk n):=by
 unfold f10
 rw [zBS]
 have h : Tot (rng (f10_b0 n) n.length 0 ()) fun o=>o=(bif n.all pOk then .inl () else .inr ()):=by
  refine Tot.mono (zA1 (fun i _=>(n.take i).all pOk=true) (fun r:Unit=>n.all pOk=false) (by simp) fun i s hi hs=>?_) ?_
  ·refine zA2 hi ?_
   rw [f22_eq _ (hn _ (zBV hi))]
   refine zAR (fun hc=>zAB (.inr ⟨_,rfl,?_⟩)) (fun hc=>zAB (.inl ⟨_,rfl,?_⟩))
   ·rw [Bool.eq_false_iff]
    intro h; rw [List.all_eq_true] at h
    have:=h _ (zBV (d:=default) hi)
    rw [this] at hc; cases hc
   ·rw [zCx default hi,List.all_append,hs]; simpa using hc
  ·rintro o (⟨s,rfl,h⟩ | ⟨r,rfl,h⟩)
   ·rw [List.take_of_length_le (Nat.le_refl _)] at h; rw [h]; rfl
   ·rw [h]; rfl
 obtain ⟨o,h1,rfl⟩:=h
 rw [h1]
 unfold vOk
 cases n.all pOk <;> simp
end Go.Ab
namespace Go.Ab
theorem g7_true : g7=some true:=by decide +kernel
def VOk (v:zDL) : Prop:=(∃ t,v=ifS 91 t)∨∃ z,v=ifI 86 .i64 z
theorem asS_S (t:Str) : asS 91 (ifS 91 t)=some (t,true):=by simp [asS,ifS,bstr]
theorem asS_I (z:Int) : asS 91 (ifI 86 .i64 z)=some ([],false):=by simp [asS,ifI]
theorem asI_S (t:Str) : asI 86 .i64 (ifS 91 t)=some (0,false):=by simp [asI,ifS]
theorem asI_I (z:Int) : asI 86 .i64 (ifI 86 .i64 z)=some (z,true):=by simp [asI,ifI]
theorem isN_S (t:Str) : isN (ifS 91 t)=false:=rfl
theorem isN_I (z:Int) : isN (ifI 86 .i64 z)=false:=rfl
theorem inv_S (t:Str) : inv2 91 86 (2:Int) 3 (ifS 91 t)=some 2:=rfl
abbrev PSt:=List (Int×ZM)×Int×Int
structure PI (B:Nat) (s:PSt) : Prop where
 nd : (s.1.map (·.1)).Nodup
 rg : ∀ k∈s.1.map (·.1),0≤k∧k < s.2.1
 len : s.1.length≤1000
 nx : 0≤s.2.1∧s.2.1≤B
 ent : ∀ k e,mget s.1 k=some e→(e.map (·.1)).Nodup∧e.length≤B∧∀ p∈e,pOk p.1=true∧VOk p.2
theorem PI.val {B s}(h:PI B s){k:Int}{c:Str×Str}{v:zDL}(hv:mget ((mget s.1 k).getD []) c=some v) : VOk v:=by
 cases hk : mget s.1 k with
 | none=>rw [hk] at hv; cases hv
 | some e=>rw [hk] at hv; exact ((h.ent k e hk).2.2 _ (mg_mem hv)).2
theorem val_cases {o:Option zDL}(h:∀ v,o=some v→VOk v) : (isIf (o.getD ifN)=true)∧((o=none∧isN (o.getD ifN)=true)∨(∃ t,o=some (ifS 91 t))∨∃ z,o=some (ifI 86 .i64 z)):=by
 cases o with
 | none=>exact ⟨rfl,.inl ⟨rfl,rfl⟩⟩
 | some v =>
  rcases h v rfl with ⟨t,rfl⟩ | ⟨z,rfl⟩
  ·exact ⟨rfl,.inr (.inl ⟨t,rfl⟩)⟩
  ·exact ⟨rfl,.inr (.inr ⟨z,rfl⟩)⟩
theorem cut_eq {p:ZN}(h1:1≤p.length) (h2:p.length≤1000) : (p.take (Int.toNat (w64 ((List.length p : Int) - 1)))).drop (Int.toNat 0)=p.take (p.length - 1)∧slOk 0 (w64 ((List.length p : Int) - 1)) (List.length p)=true:=by
 have hw : w64 ((List.length p : Int) - 1)=((p.length - 1 : Nat) : Int):=by rw [w64_id ⟨by omega,by omega⟩]; omega
 rw [hw]
 refine ⟨by simp,slOk_t (by omega) (by omega) (by omega)⟩
theorem g38o_t {B s k p}(h:PI B s) (hk:(mget s.1 k).isSome=true) (h1:1≤p.length) (h2:p.length≤1000) : Tot (g38o s k p) fun o=>(∃ r,o=.inl r∧r.2≠0)∨∃ q,o=.inr q∧(mget s.1 q).isSome=true:=by
 unfold g38o
 obtain ⟨e1,e2⟩:=cut_eq h1 h2
 rw [e1]
 refine zAi hk (zAi e2 ?_)
 rw [Int.toNat_natCast]
 refine (zA1 (fun _ q=>(mget s.1 q).isSome=true) (fun r=>r.1≠0) hk (fun i q hi hq=>?_)).bind ?_
 ·unfold g38o_b0
  rw [e1]
  refine Tot.bind (Q:=fun o=>(∃ q',o=.inl q'∧(mget s.1 q').isSome=true)∨∃ r,o=.inr r∧r.1≠0) (zA2 hi ?_) ?_
  ·obtain ⟨g1,g2⟩:=val_cases (o:=mget ((mget s.1 q).getD []) ((p.take (p.length - 1)).getD i default)) fun v hv=>h.val hv
   refine zAi g1 ?_
   rcases g2 with ⟨g2,g3⟩ | ⟨t,g2⟩ | ⟨z,g2⟩
   ·rw [g3,hq]
    exact zAB (.inr ⟨_,rfl,by decide⟩)
   ·rw [g2]
    simp only [Option.getD_some,isN_S,asS_S,cond_false,Option.bind_some,cond_true,hq]
    exact zAB (.inr ⟨_,rfl,by decide⟩)
   ·rw [g2]
    simp only [Option.getD_some,isN_I,asS_I,asI_I,cond_false,Option.bind_some,cond_true,hq]
    cases hz : (mget s.1 z).isSome
    ·exact zAB (.inr ⟨_,rfl,by decide⟩)
    ·exact zAB (.inl ⟨_,rfl,hz⟩)
  ·rintro o (⟨q',rfl,hq'⟩ | ⟨r,rfl,hr⟩)
   ·exact zAB (.inl ⟨_,rfl,hq'⟩)
   ·exact zAB (.inr ⟨_,rfl,hr⟩)
 ·rintro o (⟨q',rfl,hq'⟩ | ⟨r,rfl,hr⟩)
  ·exact zAB (.inr ⟨_,rfl,hq'⟩)
  ·exact zAB (.inl ⟨_,rfl,hr⟩)
end Go.Ab
namespace Go.Ab
open Go
section
variable {α β:Type} [DecidableEq α]
theorem zDn : ∀ (x:List (α×β)) (k:α),(mdel x k).Sublist x:=by
 intro x k
 induction x with
 | nil=>exact List.Sublist.refl _
 | cons p x ih =>
  simp only [mdel]
  split
  ·exact List.sublist_cons_self _ _
  ·exact ih.cons_cons _
theorem mdel_nd {x:List (α×β)}{k:α}(h:(x.map (·.1)).Nodup) : ((mdel x k).map (·.1)).Nodup:=h.sublist ((zDn x k).map _)
theorem mg_mdel {x:List (α×β)}{k q:α}{v:β}(h:mget (mdel x k) q=some v) (hn:(x.map (·.1)).Nodup) : mget x q=some v:=mem_mg hn ((zDn x k).subset (mg_mem h))
theorem mset_len1 (x:List (α×β)) (k:α) (v:β) : (mset x k v).length≤x.length+1:=by
 induction x with
 | nil=>simp [mset]
 | cons p x ih=>simp only [mset]; split <;> simp <;> omega
theorem mset_len0 {x:List (α×β)}{k:α}(v:β) (h:(mget x k).isSome=true) : (mset x k v).length=x.length:=by
 induction x with
 | nil=>cases h
 | cons p x ih =>
  simp only [mset,mget] at *
  split
  ·simp
  ·rename_i e; rw [if_neg e] at h; simp [ih h]
theorem mset_mem1 {x:List (α×β)}{k:α}{v:β} : ∀ {p:α×β},p∈mset x k v→p=(k,v)∨p∈x:=by
 induction x with
 | nil=>intro p h; simp [mset] at h; exact .inl h
 | cons q x ih =>
  intro p h
  simp only [mset] at h
  split at h
  ·rcases List.mem_cons.1 h with h | h
   ·exact .inl h
   ·exact .inr (List.mem_cons_of_mem _ h)
  ·rcases List.mem_cons.1 h with h | h
   ·exact .inr (by rw [h]; exact List.mem_cons_self)
   ·exact (ih h).imp id (List.mem_cons_of_mem _)
theorem mset_keymem {x:List (α×β)}{k:α}{v:β}{q:α}(h:q∈(mset x k v).map (·.1)) : q=k∨q∈x.map (·.1):=by
 obtain ⟨p,hp,rfl⟩:=List.mem_map.1 h
 rcases mset_mem1 hp with rfl | hp
 ·exact .inl rfl
 ·exact .inr (List.mem_map.2 ⟨p,hp,rfl⟩)
theorem mg_key {x:List (α×β)}{k:α}{v:β}(h:mget x k=some v) : k∈x.map (·.1):=List.mem_map.2 ⟨_,mg_mem h,rfl⟩
end
theorem PI.up {B B' s}(h:PI B s) (hB:B≤B') : PI B' s:=⟨h.nd,h.rg,h.len,⟨h.nx.1,by have:=h.nx.2; omega⟩,fun k e he=>let ⟨a,b,c⟩:=h.ent k e he; ⟨a,Nat.le_trans b hB,c⟩⟩
theorem PI.turn {B s k e e'}(h:PI B s) (hk:mget s.1 k=some e) (h1:(e'.map (·.1)).Nodup) (h2:e'.length≤B+1) (h3:∀ p∈e',pOk p.1=true∧VOk p.2) (c:Int) : PI (B+1) (mset s.1 k e',s.2.1,c):=by
 refine ⟨zBZ _ _ h.nd,fun q hq=>?_,?_,⟨h.nx.1,by have:=h.nx.2; show s.2.1≤((B+1 : Nat) : Int); omega⟩,fun q x hx=>?_⟩
 ·rcases mset_keymem hq with rfl | hq
  ·exact h.rg _ (mg_key hk)
  ·exact h.rg _ hq
 ·show (mset s.1 k e').length≤1000
  rw [mset_len0 _ (by rw [hk]; rfl)]; exact h.len
 ·have hx : mget (mset s.1 k e') q=some x:=hx
  rw [zD4] at hx
  by_cases e : q=k
  ·rw [if_pos e] at hx; cases hx; exact ⟨h1,h2,h3⟩
  ·rw [if_neg e] at hx; have:=h.ent q x hx; exact ⟨this.1,by omega,this.2.2⟩
theorem PI.put {B s k c v}(h:PI B s) (hk:(mget s.1 k).isSome=true) (hc:pOk c=true) (hv:VOk v) (n:Int) : PI (B+1) (mset s.1 k (mset ((mget s.1 k).getD []) c v),s.2.1,n):=by
 obtain ⟨e,he⟩:=Option.isSome_iff_exists.1 hk
 obtain ⟨a1,a2,a3⟩:=h.ent k e he
 rw [he]
 refine h.turn he (zBZ _ _ a1) (Nat.le_trans (mset_len1 _ _ _) (by simp; omega)) (fun p hp=>?_) n
 rcases mset_mem1 hp with rfl | hp
 ·exact ⟨hc,hv⟩
 ·exact a3 p hp
theorem PI.take {B s k c}(h:PI B s) (hk:(mget s.1 k).isSome=true) (n:Int) : PI (B+1) (mset s.1 k (mdel ((mget s.1 k).getD []) c),s.2.1,n):=by
 obtain ⟨e,he⟩:=Option.isSome_iff_exists.1 hk
 obtain ⟨a1,a2,a3⟩:=h.ent k e he
 rw [he]
 exact h.turn he (mdel_nd a1) (Nat.le_trans (zDn _ _).length_le (by omega)) (fun p hp=>a3 p ((zDn _ _).subset hp)) n
theorem PI.drop {B s k}(h:PI B s) : PI B (mdel s.1 k,s.2) :=
 ⟨mdel_nd h.nd,fun q hq=>h.rg q (((zDn s.1 k).map _).subset hq),Nat.le_trans (zDn _ _).length_le h.len,h.nx,fun q e he=>h.ent q e (mg_mdel he h.nd)⟩
theorem PI.make {B s}(h:PI B s) (hl:s.1.length≠1000) (n:Int) : PI (B+1) (mset s.1 s.2.1 [],s.2.1+1,n):=by
 have hnew : mget s.1 s.2.1=none:=by
  cases hm : mget s.1 s.2.1 with
  | none=>rfl
  | some e=>have:=(h.rg _ (mg_key hm)).2; omega
 refine ⟨zBZ _ _ h.nd,fun q hq=>?_,?_,⟨by have:=h.nx.1; show 0≤s.2.1+1; omega,by have:=h.nx.2; show s.2.1+1≤((B+1 : Nat) : Int); omega⟩,fun q x hx=>?_⟩
 ·show 0≤q∧q < s.2.1+1
  rcases mset_keymem hq with rfl | hq
  ·have:=h.nx.1; omega
  ·have:=h.rg _ hq; omega
 ·have:=mset_len1 s.1 s.2.1 ([] : ZM)
  have:=h.len
  show (mset s.1 s.2.1 []).length≤1000
  omega
 ·have hx : mget (mset s.1 s.2.1 []) q=some x:=hx
  rw [zD4] at hx
  by_cases e : q=s.2.1
  ·rw [if_pos e] at hx; cases hx; exact ⟨List.nodup_nil,by simp,by simp⟩
  ·rw [if_neg e] at hx; have:=h.ent q x hx; exact ⟨this.1,by omega,this.2.2⟩
theorem PI.new : PI 1 ((mset [] 0 [],1,0) : PSt):=by
 refine ⟨by simp [mset],fun k hk=>by simp [mset] at hk; subst hk; exact ⟨by decide,by decide⟩,by simp [mset],⟨by decide,by decide⟩,fun k e he=>?_⟩
 have he : mget (mset [] 0 []) k=some e:=he
 rw [zD4] at he
 by_cases h : k=0
 ·rw [if_pos h] at he; cases he; exact ⟨List.nodup_nil,by simp,by simp⟩
 ·rw [if_neg h] at he; cases he
theorem f26_eq (s:PSt) (k:Int) (p:ZN) : f26 s k p=some (bif !(vOk p) then 1 else bif !((mget s.1 k).isSome) then 7 else 0):=by
 unfold f26
 rw [f9_eq]
 cases vOk p <;> cases (mget s.1 k).isSome <;> rfl
theorem f26_0 {s k p}(h:(bif !(vOk p) then (1:Int) else bif !((mget s.1 k).isSome) then 7 else 0)=0) : vOk p=true∧(mget (s:PSt).1 k).isSome=true:=by
 cases h1 : vOk p <;> cases h2 : (mget s.1 k).isSome <;> rw [h1,h2] at h <;> simp_all
theorem vOk_n {p:ZN}(h:vOk p=true) : 1≤p.length∧p.length≤20∧∀ c∈p,pOk c=true:=by
 unfold vOk at h
 simp only [Bool.and_eq_true,List.all_eq_true,decide_eq_true_eq] at h
 exact ⟨by omega,by omega,h.1⟩
theorem g24_t {B s}(h:PI B s) (hB:B≤1000000) : Tot (g24 s) fun o=>PI (B+1) o.2.2:=by
 unfold g24
 refine zAR (fun hc=>zAB (h.up (by omega))) (fun hc=>?_)
 have hl : s.1.length≠1000:=fun e=>by rw [e] at hc; simp at hc
 have hw : w64 (s.2.1+1)=s.2.1+1:=w64_id ⟨by have:=h.nx.1; omega,by have:=h.nx.2; omega⟩
 rw [hw]
 exact zAB (h.make hl _)
theorem last_at {p:ZN}(h1:1≤p.length) (h2:p.length≤1000) : ix p (w64 ((List.length p : Int) - 1))=some (p.getD (p.length - 1) default):=by
 have hw : w64 ((List.length p : Int) - 1)=((p.length - 1 : Nat) : Int):=by rw [w64_id ⟨by omega,by omega⟩]; omega
 rw [hw]; exact zBW (by omega)
theorem g14_t {B s k p}(h:PI B s) : Tot (g14 s k p) fun o=>PI (B+1) o.2.2:=by
 unfold g14
 rw [f26_eq]
 simp only [Option.bind_some]
 refine zAR (fun _=>zAB (h.up (by omega))) (fun hc=>?_)
 obtain ⟨hv,hk⟩:=f26_0 (s:=s) (k:=k) (p:=p) (by simpa using hc)
 obtain ⟨n1,n2,n3⟩:=vOk_n hv
 refine (g38o_t h hk n1 (by omega)).bind ?_
 rintro o (⟨r,rfl,hr⟩ | ⟨q,rfl,hq⟩)
 ·refine zAR (fun _=>zAB (h.up (by omega))) (fun hc=>?_)
  simp at hc; exact absurd hc hr
 ·simp only [last_at n1 (show p.length≤1000 by omega),Option.bind_some]
  refine zAR (fun _=>zAi hq (zAB (h.up (by omega)))) (fun hc=>zAi hq (zAB (h.take hq _)))
theorem inv_some {o:Option zDL}(h:∀ v,o=some v→VOk v) (ho:o.isSome=true) : ∃ z : Int,inv2 91 86 (2:Int) 3 (o.getD ifN)=some z:=by
 obtain ⟨v,rfl⟩:=Option.isSome_iff_exists.1 ho
 rcases h v rfl with ⟨t,rfl⟩ | ⟨z,rfl⟩
 ·exact ⟨2,rfl⟩
 ·exact ⟨3,rfl⟩
theorem g40_t {B s k p v again}(h:PI B s) (hv:VOk v) : Tot (g40 s k p v again) fun o=>PI (B+1) o.2.2:=by
 unfold g40
 rw [f26_eq]
 simp only [Option.bind_some]
 refine zAR (fun _=>zAB (h.up (by omega))) (fun hc=>?_)
 obtain ⟨hp,hk⟩:=f26_0 (s:=s) (k:=k) (p:=p) (by simpa using hc)
 obtain ⟨n1,n2,n3⟩:=vOk_n hp
 refine Tot.bind (Q:=fun _=>True) ?_ ?_
 ·rcases hv with ⟨t,rfl⟩ | ⟨z,rfl⟩
  ·simp only [asS_S,Option.bind_some,cond_true]
   exact zAR (fun _=>zAB trivial) (fun _=>zAB trivial)
  ·simp only [asS_I,asI_I,Option.bind_some,cond_true,cond_false]
   exact zAR (fun _=>zAB trivial) (fun _=>zAB trivial)
 rintro (u | e) _
 rotate_left
 ·exact zAB (h.up (by omega))
 refine (g38o_t h hk n1 (by omega)).bind ?_
 rintro o (⟨r,rfl,hr⟩ | ⟨q,rfl,hq⟩)
 ·refine zAR (fun _=>zAB (h.up (by omega))) (fun hc=>?_)
  simp at hc; exact absurd hc hr
 ·simp only [last_at n1 (show p.length≤1000 by omega),Option.bind_some]
  obtain ⟨c,hcd⟩ : ∃ c,p.getD (p.length - 1) default=c:=⟨_,rfl⟩
  have hcok : pOk c=true:=by rw [← hcd]; exact n3 _ (zBV (by omega))
  rw [hcd]
  refine Tot.bind (Q:=fun _=>True) ?_ ?_
  ·refine zAR (fun _=>zAi hq (zAB trivial)) (fun _=>?_)
   have hi : (mget ((mget s.1 q).getD []) c).isSome=true→∃ z : Int,inv2 91 86 (2:Int) 3 ((mget ((mget s.1 q).getD []) c).getD ifN)=some z:=fun h1=>inv_some (fun v hv=>h.val hv) h1
   obtain ⟨z2,hz2⟩ : ∃ z : Int,inv2 91 86 (2:Int) 3 v=some z:=by
    rcases hv with ⟨t,rfl⟩ | ⟨z,rfl⟩
    ·exact ⟨2,rfl⟩
    ·exact ⟨3,rfl⟩
   have hA : (!((mget ((mget s.1 q).getD []) c).isSome)||Option.isSome (inv2 91 86 (2:Int) 3 ((mget ((mget s.1 q).getD []) c).getD ifN)))=true:=by
    cases h1 : (mget ((mget s.1 q).getD []) c).isSome
    ·rfl
    ·obtain ⟨z,hz⟩:=hi h1; rw [hz]; rfl
   refine zAi hA (zAi (by rw [hz2]; simp) ?_)
   refine zAR (fun hd=>?_) (fun _=>zAR (fun _=>zAi hq (zAB trivial)) (fun _=>zAR (fun _=>zAB trivial) (fun _=>zAB trivial)))
   obtain ⟨z,hz⟩:=hi (by simp only [Bool.and_eq_true] at hd; exact hd.1)
   rw [hz]
   exact zAi hq (zAB trivial)
  rintro (n | ⟨a,b,d⟩) _
  ·exact zAi hq (zAB (h.put hq hcok hv _))
  ·exact zAB (h.up (by omega))
theorem g27_t {B s k p z}(h:PI B s) : Tot (g27 s k p z) fun o=>PI (B+1) o.2.2:=by
 unfold g27
 exact (g40_t h (.inr ⟨_,rfl⟩)).bind fun r hr=>zAB hr
theorem g23_t {B s k p z}(h:PI B s) : Tot (g23 s k p z) fun o=>PI (B+1) o.2.2:=by
 unfold g23
 exact (g40_t h (.inr ⟨_,rfl⟩)).bind fun r hr=>zAB hr
theorem g12_t {B s k p t}(h:PI B s) : Tot (g12 s k p t) fun o=>PI (B+1) o.2.2:=by
 unfold g12
 exact (g40_t h (.inl ⟨_,rfl⟩)).bind fun r hr=>zAB hr
theorem g13_t {B s k p t}(h:PI B s) : Tot (g13 s k p t) fun o=>PI (B+1) o.2.2:=by
 unfold g13
 exact (g40_t h (.inl ⟨_,rfl⟩)).bind fun r hr=>zAB hr
theorem g28_t {B s k p}(h:PI B s) (hB:B≤900000) : Tot (g28 s k p) fun o=>PI (B+3) o.2.2.2:=by
 unfold g28
 refine (g40_t h (.inr ⟨_,rfl⟩)).bind fun x hx=>?_
 refine zAR (fun _=>zAB (hx.up (by omega))) (fun _=>?_)
 refine (g24_t hx (by omega)).bind fun y hy=>?_
 refine zAR (fun _=>?_) (fun _=>?_)
 ·exact (g14_t hy).bind fun z hz=>zAB hz
 ·exact (g27_t hy).bind fun z hz=>zAB hz
theorem g41_1 (s:PSt) (k:Int) : g41 s [k]=some (bif (mget s.1 k).isSome then 0 else 7):=by
 cases h : mget s.1 k <;> simp [g41,rng,g41_b0,ix,h]
theorem g31_t {B s k}(h:PI B s) : Tot (g31 s k) fun o=>PI B o.2:=by
 unfold g31
 rw [g41_1]
 simp only [Option.bind_some]
 refine zAR (fun _=>zAB h) (fun hc=>?_)
 have hk : (mget s.1 k).isSome=true:=by
  cases h1 : (mget s.1 k).isSome
  ·rw [h1] at hc; simp at hc
  ·rfl
 exact zAi hk (zAR (fun _=>zAB h) (fun _=>zAB h.drop))
theorem segL_eq (s:Str) : segL s=!(tOk s):=by
 have h : decide (0≤Lib.idxFunc nonP true (bstr s))=s.any badB:=Option.some.inj (fCF_eq s)
 unfold segL tOk
 rw [h]
 by_cases e : s.length≤32
 ·have e1 : decide (32 < (s.length : Int))=false:=by simp; omega
  have e2 : decide ((s.length : Int)≤32)=true:=by simp; omega
  first
   | (rw [e1,e2]; cases s.any badB <;> rfl)
   | (simp only [e1,e2]; cases s.any badB <;> rfl)
   | (simp [e]; done)
 ·have e1 : decide (32 < (s.length : Int))=true:=by simp; omega
  have e2 : decide ((s.length : Int)≤32)=false:=by simp; omega
  first
   | (rw [e1,e2]; cases s.any badB <;> rfl)
   | (simp only [e1,e2]; cases s.any badB <;> rfl)
   | (simp [e]; done)
theorem pOkL_eq (c:Str×Str) : pOkL c=pOk c:=by
 unfold pOkL pOk
 rw [segL_eq,segL_eq,two_empty]
 simp
theorem f28_t {c:Str×Str}{v:zDL}(h:VOk v) : Tot (f28 c v) fun o=>o.1=c:=by
 unfold f28
 rcases h with ⟨t,rfl⟩ | ⟨z,rfl⟩
 ·simp only [asS_S,Option.bind_some,cond_true]; exact zAB rfl
 ·simp only [asS_I,asI_I,Option.bind_some,cond_true,cond_false]; exact zAB rfl
theorem skeysC_t {B:Nat}{e:ZM}(h1:e.length≤B) (hB:B≤1000000) (h2:∀ p∈e,pOk p.1=true) : skeysC e=some (zDo (e.map (·.1))):=by
 unfold skeysC
 have ha : (e.all fun p=>pOkL p.1)=true:=by
  rw [List.all_eq_true]; intro p hp; rw [pOkL_eq]; exact h2 p hp
 have hb : Nat.ble e.length 1000000000=true:=by rw [Nat.ble_eq]; omega
 rw [ha,hb]; rfl
theorem g33_t {B s k a b}(h:PI B s) (hB:B≤1000000) : Tot (g33 s k a b) fun _=>True:=by
 unfold g33
 rw [g41_1]
 simp only [Option.bind_some]
 refine zAR (fun _=>zAB trivial) (fun hc=>zAR (fun _=>zAB trivial) (fun _=>?_))
 have hk : (mget s.1 k).isSome=true:=by
  cases h1 : (mget s.1 k).isSome
  ·rw [h1] at hc; simp at hc
  ·rfl
 obtain ⟨e,he⟩:=Option.isSome_iff_exists.1 hk
 obtain ⟨e1,e2,e3⟩:=h.ent k e he
 rw [he]
 simp only [f67,Option.bind_some,Option.getD_some,g67,zBs,skeysC_t e2 hB (fun p hp=>(e3 p hp).1)]
 have hperm : ∀ c∈zDo (e.map (·.1)),c∈e.map (·.1):=fun c hc=>(List.mergeSort_perm _ _).mem_iff.1 hc
 have hlen : (zDo (e.map (·.1))).length≤B:=by
  have h1 : (zDo (e.map (·.1))).length=(e.map (·.1)).length:=List.Perm.length_eq (List.mergeSort_perm _ _)
  rw [h1,List.length_map]; exact e2
 rw [Int.toNat_natCast]
 refine Tot.bind (Q:=fun o=>∃ r,o=.inl r) (Tot.bind (Q:=fun o=>∃ r,o=.inl r) (zAq (fun i r=>r.2.length≤i) (by simp) (fun i r hi hr=>?_) |>.mono ?_) ?_) ?_
 ·unfold g67_b0
  refine zA2 hi ?_
  obtain ⟨p,hp,hpe⟩:=List.mem_map.1 (hperm _ (zBV (d:=default) hi))
  have hm : mget e ((zDo (e.map (·.1))).getD i default)=some p.2:=by rw [← hpe]; exact mem_mg e1 hp
  rw [hm]
  refine Tot.bind (Q:=fun o=>∃ r',o=.inl r'∧r'.2.length≤i+1) ?_ ?_
  ·unfold g33_b0
   refine Tot.bind (Q:=fun o=>∃ r',o=.inl r'∧r'.length≤i+1) ?_ ?_
   ·refine zAR (fun _=>?_) (fun _=>zAB ⟨_,rfl,by omega⟩)
    refine (f28_t (e3 p hp).2).bind fun y _=>zAi (zBf (by simp; omega)) (zAB ⟨_,rfl,by simp; omega⟩)
   ·rintro o ⟨r',rfl,hr'⟩; exact zAB ⟨_,rfl,hr'⟩
  ·rintro o ⟨r',rfl,hr'⟩; exact zAB ⟨_,rfl,hr'⟩
 ·rintro o ⟨r,rfl,_⟩; exact ⟨r,rfl⟩
 ·rintro o ⟨r,rfl⟩; exact zAB ⟨r,rfl⟩
 ·rintro o ⟨r,rfl⟩; exact zAB trivial
theorem PI.visG {B s}(h:PI B s) : visG s.1=true:=by
 unfold Go.Ab.visG
 rw [List.all_eq_true]; intro q hq
 rw [List.all_eq_true]; intro p hp
 have hm : mget s.1 q.1=some q.2:=mem_mg h.nd hq
 obtain ⟨_,_,e3⟩:=h.ent _ _ hm
 rcases (e3 p hp).2 with ⟨t,e⟩ | ⟨z,e⟩
 ·rw [e,asI_S]; rfl
 ·rw [e,asI_I]; rfl
theorem nodup_len {l m:List Int}(hn:l.Nodup) (hs:∀ x∈l,x∈m) : l.length≤m.length:=by
 induction l generalizing m with
 | nil=>simp
 | cons a l ih =>
  rw [List.nodup_cons] at hn
  have h1:=ih (m:=m.erase a) hn.2 (fun x hx=>by
   have : x≠a:=fun e=>hn.1 (e ▸ hx)
   exact (List.mem_erase_of_ne this).2 (hs x (List.mem_cons_of_mem _ hx)))
  have ha : a∈m:=hs a (List.mem_cons_self ..)
  rw [List.length_erase_of_mem ha] at h1
  have:=List.length_pos_of_mem ha
  simp only [List.length_cons]; omega
theorem rch_at {c:Ctx}{s:List (Int×Bool)}{x y:Int}(h:Rch c s x y) : (mget c y).isSome=true:=by
 induction h with
 | here h=>exact h.1
 | step _ _ _ ih=>exact ih
theorem g18_t {B s k}(h:PI B s) (hB:B≤1000000) : Tot (g18 s k) fun _=>True:=by
 unfold g18
 rw [g41_1]
 simp only [Option.bind_some]
 refine zAR (fun _=>zAB trivial) (fun hc=>?_)
 have hu : zDl s.1 [] < 10000:=by
  have h1 : zDl s.1 []≤s.1.length:=List.length_filter_le ..
  have:=h.len; omega
 obtain ⟨r,hr,hv⟩:=g55_vis h.visG 10000 [] k hu (by simp [zC])
 rw [hr]
 simp only [Option.bind_some,zBs]
 have hsub : ∀ y∈r.map (·.1),y∈s.1.map (·.1):=by
  intro y hy
  obtain ⟨p,hp,rfl⟩:=List.mem_map.1 hy
  have hm : mget r p.1=some p.2:=mem_mg hv.1 hp
  by_cases e : ∃ t,t=k∧Rch s.1 [] t p.1
  ·obtain ⟨t,_,ht⟩:=e
   have ho:=rch_at ht
   obtain ⟨e,he⟩:=Option.isSome_iff_exists.1 ho
   exact List.mem_map.2 ⟨_,mg_mem he,rfl⟩
  ·rw [(hv.2 p.1).2 e] at hm; cases hm
 have hlen:=nodup_len hv.1 hsub
 have h2:=h.len
 have h3:=h.nx
 rw [List.length_map,List.length_map] at hlen
 have hk : skeys r=some (zBT (r.map (·.1))):=by
  unfold skeys
  have a1 : (r.all fun p=>decide (-9223372036854775808≤p.1)&&decide (p.1≤9223372036854775807))=true:=by
   rw [List.all_eq_true]; intro p hp
   have:=h.rg _ (hsub p.1 (List.mem_map.2 ⟨p,hp,rfl⟩))
   simp only [Bool.and_eq_true,decide_eq_true_eq]; omega
  have a2 : Nat.ble r.length 1000000000000=true:=by rw [Nat.ble_eq]; omega
  rw [a1,a2]; rfl
 rw [hk]
 exact zAB trivial
theorem PI.valm {B s}(h:PI B s){k:Int}{e}(hk:mget s.1 k=some e){c:Str×Str}{v:zDL}(hv:mget e c=some v) : VOk v :=
 ((h.ent k e hk).2.2 _ (mg_mem hv)).2
theorem g38_t {B s k p}(h:PI B s) (hk:(mget s.1 k).isSome=true) (h1:1≤p.length) (h2:p.length≤1000) : Tot (g38 s k p) fun o=>o.2.2≠0∨∃ q,mget s.1 q=some o.1:=by
 unfold g38
 obtain ⟨e1,e2⟩:=cut_eq h1 h2
 rw [e1]
 refine zAi e2 ?_
 rw [Int.toNat_natCast]
 obtain ⟨e,he⟩:=Option.isSome_iff_exists.1 hk
 refine (zA1 (fun _ m=>∃ q,mget s.1 q=some m) (fun r=>r.1≠0) ⟨k,by rw [he]; rfl⟩ (fun i m hi hq=>?_)).bind ?_
 ·unfold g38_b0
  rw [e1]
  refine Tot.bind (Q:=fun o=>(∃ m',o=.inl m'∧∃ q,mget s.1 q=some m')∨∃ r,o=.inr r∧r.1≠0) (zA2 hi ?_) ?_
  ·obtain ⟨q,hq⟩:=hq
   obtain ⟨g1,g2⟩:=val_cases (o:=mget m ((p.take (p.length - 1)).getD i default)) fun v hv=>h.valm hq hv
   refine zAi g1 ?_
   rcases g2 with ⟨g2,g3⟩ | ⟨t,g2⟩ | ⟨z,g2⟩
   ·rw [g3]
    exact zAB (.inr ⟨_,rfl,by decide⟩)
   ·rw [g2]
    simp only [Option.getD_some,isN_S,asS_S,cond_false,Option.bind_some,cond_true]
    exact zAB (.inr ⟨_,rfl,by decide⟩)
   ·rw [g2]
    simp only [Option.getD_some,isN_I,asS_I,asI_I,cond_false,Option.bind_some,cond_true]
    cases hz : mget s.1 z with
    | none=>exact zAB (.inr ⟨_,rfl,by decide⟩)
    | some e'=>exact zAB (.inl ⟨_,rfl,z,hz⟩)
  ·rintro o (⟨q',rfl,hq'⟩ | ⟨r,rfl,hr⟩)
   ·exact zAB (.inl ⟨_,rfl,hq'⟩)
   ·exact zAB (.inr ⟨_,rfl,hr⟩)
 ·rintro o (⟨q',rfl,hq'⟩ | ⟨r,rfl,hr⟩)
  ·exact zAB (.inr hq')
  ·exact zAB (.inl hr)
theorem f16_t {B s k p}(h:PI B s) : Tot (f16 s k p) fun _=>True:=by
 unfold f16
 rw [f26_eq]
 simp only [Option.bind_some]
 refine zAR (fun _=>zAB trivial) (fun hc=>?_)
 have h0 : (bif !(vOk p) then (1:Int) else bif !((mget s.1 k).isSome) then 7 else 0)=0:=by simpa using hc
 obtain ⟨hv,hk⟩:=f26_0 h0
 obtain ⟨h1,h2,hp⟩:=vOk_n hv
 refine (g38_t h hk h1 (by omega)).bind fun x4 hx=>?_
 refine zAR (fun _=>zAB trivial) (fun hd=>?_)
 have hz : x4.2.2=0:=by simpa using hd
 obtain ⟨q,hq⟩:=hx.resolve_left (fun e=>e hz)
 have hw : w64 ((List.length p : Int) - 1)=((p.length - 1 : Nat) : Int):=by rw [w64_id ⟨by omega,by omega⟩]; omega
 rw [hw]
 refine zA2 (by omega) ?_
 obtain ⟨g1,g2⟩:=val_cases (o:=mget x4.1 (p.getD (p.length - 1) default)) fun v hv=>h.valm hq hv
 rcases g2 with ⟨g2,g3⟩ | ⟨t,g2⟩ | ⟨z,g2⟩
 ·rw [g2]
  simp only [Option.getD_none,ifN,asI,Option.isSome_none]
  exact zAB trivial
 ·rw [g2]
  simp only [Option.getD_some,asI_S,Option.bind_some,cond_false,Option.isSome_some,Bool.not_true]
  exact (f28_t (.inl ⟨t,rfl⟩)).bind fun _ _=>zAB trivial
 ·rw [g2]
  simp only [Option.getD_some,asI_I,Option.bind_some,cond_true]
  refine zAR (fun _=>zAB trivial) (fun _=>?_)
  exact (f28_t (.inr ⟨z,rfl⟩)).bind fun _ _=>zAB trivial
abbrev QSt:=ZQ
theorem g51_t (s:QSt) (k:Int) : Tot (g51 s k) fun o=>∀ e,o=some e→e.1=k∧e∈s.1:=by
 unfold g51
 rw [Int.toNat_natCast]
 refine (zA1 (fun _ _=>True) (fun r=>r.1=k∧r∈s.1) trivial (fun i u hi _=>?_)).bind ?_
 ·unfold g51_b0
  refine zA2 hi ?_
  cases hd : decide ((s.1.getD i default).1=k)
  ·exact zAB (.inl ⟨_,rfl,trivial⟩)
  ·exact zAB (.inr ⟨_,rfl,by simpa using hd,zBV (d:=default) hi⟩)
 ·rintro o (⟨q',rfl,_⟩ | ⟨r,rfl,hr⟩)
  ·exact zAB (fun e he=>by cases he)
  ·exact zAB (fun e he=>by cases he; exact hr)
theorem g51o_t (s:QSt) (k:Int) : Tot (g51o s k) fun o=>o=.inl ()∨∃ j,o=.inr j∧j < s.1.length∧(s.1.getD j default).1=k:=by
 unfold g51o
 rw [Int.toNat_natCast]
 refine (zA1 (fun _ _=>True) (fun j=>j < s.1.length∧(s.1.getD j default).1=k) trivial (fun i u hi _=>?_)).bind ?_
 ·unfold g51o_b0
  refine zA2 hi ?_
  cases hd : decide ((s.1.getD i default).1=k)
  ·exact zAB (.inl ⟨_,rfl,trivial⟩)
  ·refine zAB (.inr ⟨_,rfl,?_⟩)
   rw [Int.toNat_natCast]; exact ⟨hi,by simpa using hd⟩
 ·rintro o (⟨q',rfl,_⟩ | ⟨r,rfl,hr⟩)
  ·exact zAB (.inl rfl)
  ·exact zAB (.inr ⟨_,rfl,hr⟩)
def CL (c:Str×Str) : Prop:=c.1.length≤100000∧c.2.length≤100000
theorem f13_t {a b:Str×Str}(ha:CL a) (hb:CL b) : Tot (f13 a b) fun _=>True:=by
 unfold f13
 rw [f22_eq a ha,f22_eq b hb]
 simp only [Option.bind_some,Option.isSome_some,Bool.or_true,cond_true]
 refine zAR (fun _=>zAB trivial) (fun _=>?_)
 unfold fCmp
 simp only [Option.bind_some]
 exact zAR (fun _=>zAB trivial) (fun _=>zAB trivial)
theorem g62_t (x:ZR){c:Str×Str}(hc:CL c) (hx:∀ p∈x.2,CL p.1) : Tot (g62 (some x) c) fun o=>0≤o.1∧o.1≤(x.2.length : Int)∧(o.2=true→o.1 < (x.2.length : Int)):=by
 unfold g62
 simp only [Option.bind_some]
 rw [Int.toNat_natCast]
 refine (zA1 (fun _ _=>True) (fun r=>0≤r.1∧r.1 < (x.2.length : Int)) trivial (fun i u hi _=>?_)).bind ?_
 ·unfold g62_b0
  refine zA2 hi ?_
  refine (f13_t (hx _ (zBV (d:=default) hi)) hc).bind fun z _=>zAR (fun _=>?_) (fun _=>zAB (.inl ⟨_,rfl,trivial⟩))
  exact zAB (.inr ⟨_,rfl,by simp,by simp; omega⟩)
 ·rintro o (⟨q',rfl,_⟩ | ⟨r,rfl,hr⟩)
  ·exact zAB ⟨by simp,by simp,fun h=>by cases h⟩
  ·exact zAB ⟨hr.1,by have:=hr.2; omega,fun _=>hr.2⟩
def QC (s:QSt) : Prop:=∀ x∈s.1,∀ p∈x.2,CL p.1
theorem g61_t {s:QSt}{k:Int}{p:ZN}(hs:QC s) (hk:∃ e,g51 s k=some (some e)) (h1:1≤p.length) (h2:p.length≤1000) (hp:∀ c∈p,CL c) : Tot (g61 s k p) fun o=>o.2.2≠0∨∃ e,o.1=some e∧e∈s.1:=by
 unfold g61
 obtain ⟨e1,e2⟩:=cut_eq h1 h2
 rw [e1]
 obtain ⟨e,he⟩:=hk
 have hm : e∈s.1:=by
  obtain ⟨o,ho,hq⟩:=g51_t s k
  rw [he] at ho; cases ho
  exact (hq e rfl).2
 rw [he]
 simp only [Option.bind_some]
 refine zAi e2 ?_
 rw [Int.toNat_natCast]
 refine (zA1 (fun _ m=>∃ e,m=some e∧e∈s.1) (fun r=>r.1≠0) ⟨e,rfl,hm⟩ (fun i m hi hq=>?_)).bind ?_
 ·obtain ⟨x,rfl,hx⟩:=hq
  unfold g61_b0
  rw [e1]
  refine zA2 hi ?_
  refine (g62_t x (hp _ (List.mem_of_mem_take (zBV (d:=default) hi))) (hs x hx)).bind fun y hy=>?_
  refine zAR (fun _=>zAB (.inr ⟨_,rfl,by simp⟩)) (fun hc=>?_)
  have hl:=hy.2.2 (by simpa using hc)
  simp only [Option.bind_some]
  refine tot_ixz hy.1 hl (zAR (fun _=>zAB (.inr ⟨_,rfl,by simp⟩)) (fun _=>?_))
  refine tot_ixz hy.1 hl ((g51_t s _).bind fun z hz=>?_)
  cases z with
  | none=>exact zAB (.inr ⟨_,rfl,by simp⟩)
  | some w=>exact zAB (.inl ⟨_,rfl,w,rfl,(hz w rfl).2⟩)
 ·rintro o (⟨q',rfl,hq'⟩ | ⟨r,rfl,hr⟩)
  ·exact zAB (.inr hq')
  ·exact zAB (.inl hr)
abbrev QEnt:=ZE
structure QI (B:Nat) (s:QSt) : Prop where
 qc : QC s
 nd : (s.1.map (·.1)).Nodup
 len : s.1.length≤1000
 el : ∀ x∈s.1,x.2.length≤B
 nx : 0≤s.2∧s.2≤B
 rg : ∀ x∈s.1,0≤x.1∧x.1 < s.2
theorem QI.up {B B' s}(h:QI B s) (hB:B≤B') : QI B' s:=⟨h.qc,h.nd,h.len,fun x hx=>Nat.le_trans (h.el x hx) hB,⟨h.nx.1,by have:=h.nx.2; omega⟩,h.rg⟩
theorem QI.new : QI 1 (([(0,([] : QEnt))],1) : QSt):=by
 refine ⟨?_,by simp,by simp,?_,⟨by decide,by decide⟩,?_⟩
 ·intro x hx p hp; simp at hx; subst hx; cases hp
 ·intro x hx; simp at hx; subst hx; simp
 ·intro x hx; simp at hx; subst hx; exact ⟨by decide,by decide⟩
theorem set_fst {α β:Type}{l:List (α×β)}{z:Nat}(d:α×β) (h:z < l.length) (e:β) : (l.set z ((l.getD z d).1,e)).map (·.1)=l.map (·.1):=by
 apply List.ext_getElem?
 intro i
 rw [List.getElem?_map,List.getElem?_map,List.getElem?_set]
 by_cases e : z=i
 ·subst e; rw [if_pos rfl,if_pos h,List.getD_eq_getElem?_getD,List.getElem?_eq_getElem h]; rfl
 ·rw [if_neg e]
theorem set_mem {α:Type}{l:List α}{z:Nat}{v x:α}(h:x∈l.set z v) : x=v∨x∈l:=by
 rcases List.mem_or_eq_of_mem_set h with h | h
 ·exact .inr h
 ·exact .inl h
theorem QI.set {B s}(h:QI B s){z:Nat}(hz:z < s.1.length){e:QEnt}(h1:e.length≤B+1) (h2:∀ p∈e,CL p.1) : QI (B+1) (s.1.set z ((s.1.getD z default).1,e),s.2):=by
 have hm:=zBV (d:=(default:Int×QEnt)) hz
 refine ⟨fun x hx=>?_,?_,by simpa using h.len,fun x hx=>?_,⟨h.nx.1,by have:=h.nx.2; show s.2≤((B+1 : Nat) : Int); omega⟩,fun x hx=>?_⟩
 ·rcases set_mem hx with rfl | hx
  ·exact h2
  ·exact h.qc x hx
 ·show ((s.1.set z _).map (·.1)).Nodup
  rw [set_fst default hz]; exact h.nd
 ·rcases set_mem hx with rfl | hx
  ·exact h1
  ·have:=h.el x hx; omega
 ·rcases set_mem hx with rfl | hx
  ·exact h.rg (s.1.getD z default) hm
  ·exact h.rg x hx
theorem QI.make {B s}(h:QI B s) (hl:s.1.length < 1000) : QI (B+1) (s.1++[(s.2,([] : QEnt))],s.2+1):=by
 refine ⟨fun x hx=>?_,?_,by simp; omega,fun x hx=>?_,⟨by have:=h.nx.1; show 0≤s.2+1; omega,by have:=h.nx.2; show s.2+1≤((B+1 : Nat) : Int); omega⟩,fun x hx=>?_⟩
 ·rcases List.mem_append.1 hx with hx | hx
  ·exact h.qc x hx
  ·simp at hx; subst hx; intro p hp; cases hp
 ·show ((s.1++_).map (·.1)).Nodup
  rw [List.map_append,List.nodup_append]
  refine ⟨h.nd,by simp,fun a ha b hb=>?_⟩
  obtain ⟨x,hx,rfl⟩:=List.mem_map.1 ha
  simp at hb; subst hb
  have:=(h.rg x hx).2; omega
 ·rcases List.mem_append.1 hx with hx | hx
  ·have:=h.el x hx; omega
  ·simp at hx; subst hx; simp
 ·show 0≤x.1∧x.1 < s.2+1
  rcases List.mem_append.1 hx with hx | hx
  ·have:=h.rg x hx; omega
  ·simp at hx; subst hx; have:=h.nx.1; show 0≤s.2∧s.2 < s.2+1; omega
theorem g25_t {B s}(h:QI B s) (hB:B≤1000000) : Tot (g25 s) fun o=>QI (B+1) o.2.2:=by
 unfold g25
 refine zAR (fun hc=>zAB (h.up (by omega))) (fun hc=>?_)
 have hl : s.1.length < 1000:=by simp at hc; omega
 have hw : w64 (s.2+1)=s.2+1:=w64_id ⟨by have:=h.nx.1; omega,by have:=h.nx.2; omega⟩
 refine zAi (zBf (by simp; omega)) (zAB ?_)
 rw [hw]; exact h.make hl
theorem g51o_n (s:QSt) (k:Int) : Tot (g51o s k) fun o=>(o=.inl ()∧∀ e∈s.1,e.1≠k)∨∃ j,o=.inr j∧j < s.1.length∧(s.1.getD j default).1=k:=by
 unfold g51o
 rw [Int.toNat_natCast]
 refine (zA1 (fun i _=>∀ j,j < i→(s.1.getD j default).1≠k) (fun j=>j < s.1.length∧(s.1.getD j default).1=k) (fun j hj=>by omega) (fun i u hi hI=>?_)).bind ?_
 ·unfold g51o_b0
  refine zA2 hi ?_
  cases hd : decide ((s.1.getD i default).1=k)
  ·refine zAB (.inl ⟨_,rfl,fun j hj=>?_⟩)
   by_cases e : j=i
   ·subst e; simpa using hd
   ·exact hI j (by omega)
  ·refine zAB (.inr ⟨_,rfl,?_⟩)
   rw [Int.toNat_natCast]; exact ⟨hi,by simpa using hd⟩
 ·rintro o (⟨q',rfl,hq⟩ | ⟨r,rfl,hr⟩)
  ·refine zAB (.inl ⟨rfl,fun e he=>?_⟩)
   obtain ⟨j,hj,rfl⟩:=zB4 (default:Int×QEnt) he
   exact hq j hj
  ·exact zAB (.inr ⟨_,rfl,hr⟩)
theorem g51o_s {s:QSt}{k:Int}(h:∃ e,g51 s k=some (some e)) : ∃ j,g51o s k=some (.inr j)∧j < s.1.length∧(s.1.getD j default).1=k:=by
 obtain ⟨e,he⟩:=h
 obtain ⟨o,ho,hq⟩:=g51_t s k
 rw [he] at ho; cases ho
 obtain ⟨h1,h2⟩:=hq e rfl
 obtain ⟨o,ho,⟨rfl,h3⟩ | ⟨j,rfl,h3⟩⟩:=g51o_n s k
 ·exact absurd h1 (h3 e h2)
 ·exact ⟨j,ho,h3⟩
theorem g62o_eq {l:List (Int×QEnt)}{z:Nat}{c:Str×Str}(h:z < l.length) : g62o l z c=g62 (some (l.getD z default)) c:=by
 unfold g62o g62
 rw [zBW h]
 rfl
theorem g61o_t {s:QSt}{k:Int}{p:ZN}(hs:QC s) (hk:∃ e,g51 s k=some (some e)) (h1:1≤p.length) (h2:p.length≤1000) (hp:∀ c∈p,CL c) : Tot (g61o s k p) fun o=>(∃ r,o=.inl r∧r.2≠0)∨∃ z,o=.inr z∧z < s.1.length:=by
 unfold g61o
 obtain ⟨e1,e2⟩:=cut_eq h1 h2
 rw [e1]
 obtain ⟨j,hj,hj2,_⟩:=g51o_s hk
 rw [hj]
 simp only [Option.bind_some]
 refine zAi e2 ?_
 rw [Int.toNat_natCast]
 refine (zA1 (fun _ z=>z < s.1.length) (fun r=>r.1≠0) hj2 (fun i z hi hz=>?_)).bind ?_
 ·unfold g61o_b0
  rw [e1]
  refine zA2 hi ?_
  rw [g62o_eq hz]
  have hx:=zBV (d:=(default:Int×QEnt)) hz
  refine (g62_t _ (hp _ (List.mem_of_mem_take (zBV (d:=default) hi))) (hs _ hx)).bind fun y hy=>?_
  refine zAR (fun _=>zAB (.inr ⟨_,rfl,by simp⟩)) (fun hc=>?_)
  have hl:=hy.2.2 (by simpa using hc)
  refine zA2 hz (tot_ixz hy.1 hl (zAR (fun _=>zAB (.inr ⟨_,rfl,by simp⟩)) (fun _=>?_)))
  refine (g51o_t s _).bind fun o ho=>?_
  rcases ho with rfl | ⟨j,rfl,hj,_⟩
  ·exact zAB (.inr ⟨_,rfl,by simp⟩)
  ·exact zAB (.inl ⟨_,rfl,hj⟩)
 ·rintro o (⟨q',rfl,hq'⟩ | ⟨r,rfl,hr⟩)
  ·exact zAB (.inr ⟨_,rfl,hq'⟩)
  ·exact zAB (.inl ⟨_,rfl,hr⟩)
theorem g64_t {B:Nat}{l:List (Int×QEnt)}{z:Nat}{b:ZB}(hz:z < l.length) (hl:∀ x∈l,x.2.length≤B) (hB:B≤1000000) (hq:∀ x∈l,∀ p∈x.2,CL p.1) (hb:CL b.1) : Tot (g64 l z b) fun l'=>∃ es,l'=l.set z ((l.getD z default).1,es)∧es.length≤(l.getD z default).2.length+1∧∀ p∈es,p=b∨p∈(l.getD z default).2:=by
 unfold g64
 rw [g62o_eq hz]
 have hm:=zBV (d:=(default:Int×QEnt)) hz
 obtain ⟨x,hx⟩ : ∃ x,l.getD z default=x:=⟨_,rfl⟩
 rw [hx] at hm ⊢
 have hlen:=hl x hm
 refine (g62_t x hb (hq x hm)).bind fun r hr=>?_
 obtain ⟨i,is⟩:=r
 obtain ⟨r1,r2,r3⟩:=hr
 simp only at r1 r2 r3
 rw [zBW hz,hx]
 simp only [Option.bind_some]
 have ht : (x.2.take i.toNat).length≤B:=by simp; omega
 refine zAi (slOk_t (by omega) r1 r2) (zAi (zBf (by simp; omega)) (zAi (zBf (by simp; omega)) ?_))
 have hw : w64 (i+1)=i+1:=w64_id ⟨by omega,by omega⟩
 obtain ⟨n,hn,hn1,hn2,hn3⟩ : ∃ n : Nat,((bif is then (some (.inl (w64 (i+1)))) else (some (.inl i))) : Option (Int ⊕ Unit))=some (.inl (n:Int))∧n≤x.2.length∧i.toNat≤n∧True:=by
  cases is with
  | true=>exact ⟨(i+1).toNat,by rw [cond_true,hw]; congr 2; omega,by have:=r3 rfl; omega,by omega,trivial⟩
  | false=>exact ⟨i.toNat,by rw [cond_false]; congr 2; omega,by omega,by omega,trivial⟩
 rw [hn]
 simp only [Option.bind_some,Int.toNat_natCast]
 rw [List.take_of_length_le (Nat.le_refl _)]
 refine zAi (slOk_t (by omega) (by omega) (by omega)) (zAi (zBf (by simp; omega)) (zAB ⟨_,rfl,?_,fun p hp=>?_⟩))
 ·simp; omega
 ·rcases List.mem_append.1 hp with hp | hp
  ·rcases List.mem_append.1 hp with hp | hp
   ·exact .inr (List.mem_of_mem_take (List.mem_of_mem_drop hp))
   ·exact .inl (by simpa using hp)
  ·exact .inr (List.mem_of_mem_drop hp)
theorem g64_i {B:Nat}{s:QSt}(h:QI B s) (hB:B≤1000000){z:Nat}(hz:z < s.1.length){b:ZB}(hb:CL b.1) : Tot (g64 s.1 z b) fun l'=>QI (B+1) (l',s.2)∧l'.length=s.1.length:=by
 refine (g64_t hz h.el hB h.qc hb).mono ?_
 rintro l' ⟨es,rfl,h1,h2⟩
 have hm:=zBV (d:=(default:Int×QEnt)) hz
 have:=h.el _ hm
 refine ⟨h.set hz (by omega) (fun p hp=>?_),by simp⟩
 rcases h2 p hp with rfl | hp
 ·exact hb
 ·exact h.qc _ hm p hp
theorem g63_t (s:QSt) : ∃ n,g63 s=some n:=by
 have : Tot (g63 s) fun _=>True:=by
  unfold g63
  rw [Int.toNat_natCast]
  refine (zAq (fun _ _=>True) trivial (fun i q hi _=>?_)).bind ?_
  ·unfold g63_b0
   exact zA2 hi (zAB ⟨_,rfl,trivial⟩)
  ·rintro o ⟨q,rfl,_⟩; exact zAB trivial
 obtain ⟨n,hn,_⟩:=this; exact ⟨n,hn⟩
theorem g51_s {s:QSt}{k:Int}{o}(h:g51 s k=some o) (ho:o.isNone=false) : ∃ e,g51 s k=some (some e):=by
 cases o with
 | none=>cases ho
 | some e=>exact ⟨e,h⟩
theorem last_tot {β:Type}{p:ZN}(h1:1≤p.length) (h2:p.length≤1000){f:Str×Str→Option β}{Q:β→Prop}(k:p.getD (p.length - 1) default∈p→Tot (f (p.getD (p.length - 1) default)) Q) : Tot ((ix p (w64 ((List.length p : Int) - 1))).bind f) Q:=by
 rw [last_at h1 h2]; exact k (zBV (by omega))
theorem g26_t {B s k p b a}(h:QI B s) (hB:B≤1000000) (hp:∀ c∈p,CL c) : Tot (g26 s k p b a) fun o=>QI (B+1) o.2.2:=by
 unfold g26
 rw [f10_eq p hp]
 simp only [Option.bind_some]
 have up : QI (B+1) s:=h.up (by omega)
 refine zAR (fun _=>zAB up) (fun hc=>?_)
 have hv : vOk p=true:=by
  cases hv : vOk p
  ·rw [hv] at hc; simp at hc
  ·rfl
 obtain ⟨n1,n2,n3⟩:=vOk_n hv
 obtain ⟨o1,ho1,_⟩:=g51_t s k
 obtain ⟨o2,ho2,_⟩:=g51_t s b.2.2.1
 rw [ho1,ho2]
 simp only [Option.bind_some]
 refine zAi (by simp) (zAR (fun _=>zAB up) (fun hd=>?_))
 have hk : ∃ e,g51 s k=some (some e):=by
  refine g51_s ho1 ?_
  cases o1
  ·simp at hd
  ·rfl
 refine (g61o_t h.qc hk n1 (by omega) hp).bind ?_
 rintro o (⟨r,rfl,hr⟩ | ⟨z,rfl,hz⟩)
 ·refine zAR (fun _=>zAB up) (fun hc=>?_)
  simp at hc; exact absurd hc hr
 ·refine last_tot n1 (by omega) fun hm=>?_
  obtain ⟨c,hcd⟩ : ∃ c,p.getD (p.length - 1) default=c:=⟨_,rfl⟩
  rw [hcd] at hm ⊢
  have hx:=zBV (d:=(default:Int×QEnt)) hz
  rw [g62o_eq hz]
  refine (g62_t _ (hp _ hm) (h.qc _ hx)).bind ?_
  rintro ⟨i,is⟩ ⟨r1,r2,r3⟩
  simp only at r1 r2 r3 ⊢
  rw [zBW hz]
  simp only [Option.isSome_some,Option.getD_some,Bool.or_true,cond_true]
  have hN : (!is||Option.isSome (ix ((s.1.getD z default)).2 i))=true:=by
   cases is with
   | false=>rfl
   | true=>rw [ix_int r1 (r3 rfl)]; rfl
  obtain ⟨n,hn⟩:=g63_t s
  rw [hn]
  refine zAR (fun _=>zAB up) (fun _=>zAi hN (zAR (fun _=>zAB up) (fun _=>zAi hN (zAR (fun _=>zAB up) (fun _=>zAi (by simp) (zAR (fun _=>zAB up) (fun _=>?_)))))))
  exact (g64_i h hB hz (hp _ hm)).bind fun l' hl'=>zAB hl'.1
theorem g65_eq {s:QSt}{k:Int}{p:ZN}(hp:∀ c∈p,CL c) : Tot (g65 s k p) fun o=>o=0→vOk p=true∧∃ e,g51 s k=some (some e):=by
 unfold g65
 rw [f10_eq p hp]
 simp only [Option.bind_some]
 refine zAR (fun _=>zAB (fun e=>by cases e)) (fun hv=>?_)
 obtain ⟨o1,ho1,_⟩:=g51_t s k
 rw [ho1]
 simp only [Option.bind_some]
 refine zAR (fun _=>zAB (fun e=>by cases e)) (fun hd=>zAB fun _=>⟨by simpa using hv,by
  cases o1 with
  | none=>cases hd
  | some e=>exact ⟨e,rfl⟩⟩)
theorem g29_t {B s k p}(h:QI B s) (hB:B≤900000) (hp:∀ c∈p,CL c) : Tot (g29 s k p) fun o=>QI (B+2) o.2.2.2:=by
 unfold g29
 have up : QI (B+2) s:=h.up (by omega)
 refine (g65_eq hp).bind fun r hr=>zAR (fun _=>zAB up) (fun hc=>?_)
 obtain ⟨hv,hk⟩:=hr (by simpa using hc)
 obtain ⟨n1,n2,n3⟩:=vOk_n hv
 refine (g61o_t h.qc hk n1 (by omega) hp).bind ?_
 rintro o (⟨r,rfl,hr⟩ | ⟨z,rfl,hz⟩)
 ·refine zAR (fun _=>zAB up) (fun hc=>?_)
  simp at hc; exact absurd hc hr
 ·refine last_tot n1 (by omega) fun hm=>?_
  obtain ⟨c,hcd⟩ : ∃ c,p.getD (p.length - 1) default=c:=⟨_,rfl⟩
  rw [hcd] at hm ⊢
  have hx:=zBV (d:=(default:Int×QEnt)) hz
  rw [g62o_eq hz]
  refine (g62_t _ (hp _ hm) (h.qc _ hx)).bind fun r hr=>?_
  obtain ⟨n,hn⟩:=g63_t s
  rw [hn]
  refine zAR (fun _=>zAB up) (fun _=>zAi (by simp) (zAR (fun _=>zAB up) (fun _=>?_)))
  refine (g64_i h (by omega) hz (hp _ hm)).bind fun l' hl'=>?_
  exact (g25_t (B:=B+1) hl'.1 (by omega)).bind fun o ho=>zAB ho
theorem g30_t {B s k p}(h:QI B s) (hB:B≤1000000) (hp:∀ c∈p,CL c) : Tot (g30 s k p) fun o=>QI (B+1) o.2.2:=by
 unfold g30
 have up : QI (B+1) s:=h.up (by omega)
 refine (g65_eq hp).bind fun r hr=>zAR (fun _=>zAB up) (fun hc=>?_)
 obtain ⟨hv,hk⟩:=hr (by simpa using hc)
 obtain ⟨n1,n2,n3⟩:=vOk_n hv
 refine (g61o_t h.qc hk n1 (by omega) hp).bind ?_
 rintro o (⟨r,rfl,hr⟩ | ⟨z,rfl,hz⟩)
 ·refine zAR (fun _=>zAB up) (fun hc=>?_)
  simp at hc; exact absurd hc hr
 ·refine last_tot n1 (by omega) fun hm=>?_
  obtain ⟨c,hcd⟩ : ∃ c,p.getD (p.length - 1) default=c:=⟨_,rfl⟩
  rw [hcd] at hm ⊢
  have hx:=zBV (d:=(default:Int×QEnt)) hz
  have hle:=h.el _ hx
  have hset:=fun (e:QEnt) (h1:e.length≤B+1) (h2:∀ p∈e,CL p.1)=>h.set hz h1 h2
  rw [g62o_eq hz]
  have hqx:=h.qc _ hx
  have hix:=zBW hz
  obtain ⟨x,hxd⟩ : ∃ x,s.1.getD z default=x:=⟨_,rfl⟩
  rw [hxd] at hx hle hset hqx hix ⊢
  refine (g62_t _ (hp _ hm) hqx).bind ?_
  rintro ⟨i,is⟩ ⟨r1,r2,r3⟩
  simp only at r1 r2 r3 ⊢
  refine zAR (fun _=>zAB up) (fun hi=>?_)
  have r4:=r3 (by simpa using hi)
  have hw : w64 (i+1)=i+1:=w64_id ⟨by omega,by omega⟩
  rw [hix,hw]
  simp only [Option.bind_some,Int.toNat_natCast]
  rw [List.take_of_length_le (Nat.le_refl _)]
  refine zAi (slOk_t (by omega) r1 (by omega)) (zAi (zBf (by simp; omega)) (zAi (slOk_t (by omega) (by omega) (by omega)) (zAi (zBf (by simp; omega)) (zAB ?_))))
  refine hset _ (by simp; omega) (fun q hq=>?_)
  rcases List.mem_append.1 hq with hq | hq
  ·exact hqx q (List.mem_of_mem_take (List.mem_of_mem_drop hq))
  ·exact hqx q (List.mem_of_mem_drop hq)
theorem QI.sub {B s}(h:QI B s){l:List (Int×QEnt)}(hl:l.Sublist s.1) : QI B (l,s.2) :=
 ⟨fun x hx=>h.qc x (hl.subset hx),(hl.map (·.1)).nodup h.nd,Nat.le_trans hl.length_le h.len,fun x hx=>h.el x (hl.subset hx),h.nx,fun x hx=>h.rg x (hl.subset hx)⟩
theorem g32_t {B s k}(h:QI B s) (hB:B≤1000000) : Tot (g32 s k) fun o=>QI B o.2:=by
 unfold g32
 have hlen:=h.len
 refine (g51o_t s k).bind ?_
 rintro o (rfl | ⟨z,rfl,hz,_⟩)
 ·exact zAB h
 ·dsimp only
  rw [zBW hz]
  refine zAi (by simp) (zAR (fun _=>zAB h) (fun _=>?_))
  rw [Int.toNat_natCast]
  refine (zAq (fun i l=>l.Sublist (s.1.take i)) (by simp) (fun i l hi hs=>?_)).bind ?_
  ·unfold g32_b0
   refine Tot.bind (Q:=fun o=>∃ l',o=.inl l'∧l'.Sublist (s.1.take (i+1))) (zA2 hi ?_) ?_
   ·have hle:=hs.length_le
    simp at hle
    rw [zCx default hi]
    refine zAR (fun _=>zAi (zBf (by simp; omega)) (zAB ⟨_,rfl,hs.append (List.Sublist.refl _)⟩)) (fun _=>zAB ⟨_,rfl,hs.trans (List.sublist_append_left _ _)⟩)
   ·rintro o ⟨l',rfl,hl'⟩; exact zAB ⟨_,rfl,hl'⟩
  ·rintro o ⟨l',rfl,hl'⟩
   rw [List.take_of_length_le (Nat.le_refl _)] at hl'
   exact zAB (h.sub hl')
theorem g34_t {B s k a b}(h:QI B s) (hB:B≤1000000) : Tot (g34 s k a b) fun _=>True:=by
 unfold g34
 refine (g51_t s k).bind fun o ho=>?_
 refine zAR (fun _=>zAB trivial) (fun hc=>?_)
 cases o with
 | none=>simp at hc
 | some e =>
  have hle:=h.el _ (ho e rfl).2
  simp at hc
  obtain ⟨c1,c2⟩:=hc
  simp only [Option.bind_some]
  obtain ⟨m,hm⟩ : ∃ m,(min a (List.length e.2 : Int))=m:=⟨_,rfl⟩
  rw [hm]
  have m1 : 0≤m∧m≤List.length e.2:=by omega
  have hw : w64 ((List.length e.2 : Int) - m)=(List.length e.2 : Int) - m:=w64_id ⟨by omega,by omega⟩
  rw [hw]
  obtain ⟨q,hq⟩ : ∃ q,(min b ((List.length e.2 : Int) - m))=q:=⟨_,rfl⟩
  rw [hq]
  have q1 : 0≤q∧q≤(List.length e.2 : Int) - m:=by omega
  have hw2 : w64 (m+q)=m+q:=w64_id ⟨by omega,by omega⟩
  rw [hw2]
  exact zAi (slOk_t m1.1 (by omega) (by omega)) (zAi (zBf (by simp; omega)) (zAB trivial))
theorem g35_t (a b:QEnt) : Tot (g35 a b) fun _=>True:=by
 unfold g35
 refine zAR (fun _=>zAB trivial) (fun hc=>?_)
 have hl : a.length=b.length:=by simp at hc; omega
 rw [Int.toNat_natCast]
 refine (zA1 (fun _ _=>True) (fun _=>True) trivial (fun i u hi _=>?_)).bind ?_
 ·unfold g35_b0
  refine zA2 hi (zA2 (by omega) (zAR (fun _=>zAB (.inr ⟨_,rfl,trivial⟩)) (fun _=>zAB (.inl ⟨_,rfl,trivial⟩))))
 ·rintro o (⟨q',rfl,_⟩ | ⟨r,rfl,hr⟩)
  ·exact zAB trivial
  ·exact zAB trivial
theorem g21_t (a b:List Int) : Tot (g21 a b) fun _=>True:=by
 unfold g21
 refine zAR (fun _=>zAB trivial) (fun hc=>?_)
 have hl : a.length=b.length:=by simp at hc; omega
 rw [Int.toNat_natCast]
 refine (zA1 (fun _ _=>True) (fun _=>True) trivial (fun i u hi _=>?_)).bind ?_
 ·unfold g21_b0
  refine zA2 hi (zA2 (by omega) (zAR (fun _=>zAB (.inr ⟨_,rfl,trivial⟩)) (fun _=>zAB (.inl ⟨_,rfl,trivial⟩))))
 ·rintro o (⟨q',rfl,_⟩ | ⟨r,rfl,hr⟩)
  ·exact zAB trivial
  ·exact zAB trivial
theorem g36_t {B s k p}(h:QI B s) (hp:∀ c∈p,CL c) : Tot (g36 s k p) fun _=>True:=by
 unfold g36
 refine (g65_eq hp).bind fun r hr=>zAR (fun _=>zAB trivial) (fun hc=>?_)
 obtain ⟨hv,hk⟩:=hr (by simpa using hc)
 obtain ⟨n1,n2,n3⟩:=vOk_n hv
 refine (g61_t h.qc hk n1 (by omega) hp).bind fun x hx=>zAR (fun _=>zAB trivial) (fun hc=>?_)
 rcases hx with hx | ⟨e,he,hem⟩
 ·simp at hc; exact absurd hc hx
 refine last_tot n1 (by omega) fun hm=>?_
 rw [he]
 refine (g62_t e (hp _ hm) (h.qc _ hem)).bind ?_
 rintro ⟨i,is⟩ ⟨r1,r2,r3⟩
 simp only at r1 r2 r3 ⊢
 simp only [Option.isSome_some,Option.getD_some,Bool.or_true,cond_true,Option.bind_some]
 cases is with
 | false=>simp only [Bool.not_false,Bool.not_true,Bool.true_or,Bool.false_and,cond_true]; exact zAB trivial
 | true =>
  obtain ⟨o2,ho2,_⟩:=g51_t s ((e.2.getD i.toNat default)).2.2.1
  simp only [ix_int r1 (r3 rfl),Option.isSome_some,Bool.or_true,cond_true,Option.getD_some,ho2,Option.bind_some]
  exact zAR (fun _=>zAB trivial) (fun _=>zAB trivial)
theorem tot_lrun {S R:Type}{b:S→Option (S ⊕ R)}(Inv:S→Prop) (μ:S→Nat) (Q:R→Prop) (h:∀ s,Inv s→Tot (b s) fun o=>(∃ s',o=.inl s'∧Inv s'∧μ s' < μ s)∨∃ r,o=.inr r∧Q r) : ∀ (k:Nat) (s:S),Inv s→μ s < k→Tot (lrun b k s) Q:=by
 intro k
 induction k with
 | zero=>intro s _ hk; omega
 | succ k ih =>
  intro s hs hk
  obtain ⟨o,h1,h2⟩:=h s hs
  simp only [lrun,h1,Option.bind_some]
  rcases h2 with ⟨s',rfl,h3,h4⟩ | ⟨r,rfl,h3⟩
  ·exact ih s' h3 (by omega)
  ·exact zAB h3
theorem g52_t (l:List Int) (z:Int) : Tot (g52 l z) fun b=>b=false→z∉l:=by
 unfold g52
 rw [Int.toNat_natCast]
 refine (zA1 (fun i _=>∀ j,j < i→l.getD j default≠z) (fun _=>True) (fun j hj=>by omega) (fun i u hi hI=>?_)).bind ?_
 ·unfold g52_b0
  refine zA2 hi ?_
  cases hd : decide (l.getD i default=z)
  ·refine zAB (.inl ⟨_,rfl,fun j hj=>?_⟩)
   by_cases e : j=i
   ·subst e; simpa using hd
   ·exact hI j (by omega)
  ·exact zAB (.inr ⟨_,rfl,trivial⟩)
 ·rintro o (⟨q',rfl,hq⟩ | ⟨r,rfl,hr⟩)
  ·refine zAB (fun _ he=>?_)
   obtain ⟨j,hj,e⟩:=zB4 (default:Int) he
   exact hq j hj e
  ·exact zAB (fun e=>by cases e)
def RQ (s:QSt) (out:List Int) : Prop:=out.Nodup∧∀ x∈out,∃ e,g51 s x=some (some e)
theorem RQ.len {s out}(h:RQ s out) : out.length≤s.1.length:=by
 have:=nodup_len (m:=s.1.map (·.1)) h.1 (fun x hx=>by
  obtain ⟨e,he⟩:=h.2 x hx
  obtain ⟨o,ho,hq⟩:=g51_t s x
  rw [he] at ho; cases ho
  obtain ⟨h1,h2⟩:=hq e rfl
  exact List.mem_map.2 ⟨e,h2,h1⟩)
 simpa using this
theorem g19_b1_t {B s}(h:QI B s){x:Int×QEnt}{out:List Int}(ho:RQ s out) : Tot (rng (g19_b1 s x) x.2.length 0 out) fun o=>∃ out',o=.inl out'∧RQ s out'∧out.length≤out'.length:=by
 have hlen:=h.len
 refine (zAq (fun _ out'=>RQ s out'∧out.length≤out'.length) ⟨ho,Nat.le_refl _⟩ (fun i out' hi hI=>?_))
 unfold g19_b1
 refine Tot.bind (Q:=fun o=>∃ l',o=.inl l'∧RQ s l'∧out.length≤l'.length) (zA2 hi ?_) ?_
 ·obtain ⟨v,hv⟩ : ∃ v,x.2.getD i default=v:=⟨_,rfl⟩
  rw [hv]
  obtain ⟨o2,ho2,_⟩:=g51_t s v.2.2.1
  obtain ⟨b,hb,hb2⟩:=g52_t out' v.2.2.1
  simp only [ho2,hb,Option.isSome_some,Bool.or_true,cond_true,Option.getD_some]
  have hol:=hI.1.len
  refine zAR (fun hc=>?_) (fun _=>zAB ⟨_,rfl,hI⟩)
  have hbf : b=false:=by cases b <;> simp_all
  have hsome : ∃ e,o2=some e:=by
   cases o2 with
   | none=>simp at hc
   | some e=>exact ⟨e,rfl⟩
  obtain ⟨e,rfl⟩:=hsome
  refine zAi (zBf (by simp; omega)) (zAB ⟨_,rfl,⟨?_,fun y hy=>?_⟩,by simp; omega⟩)
  ·rw [List.nodup_append]
   refine ⟨hI.1.1,by simp,fun a ha c hc=>?_⟩
   simp at hc; subst hc
   exact fun e=>hb2 hbf (e ▸ ha)
  ·rcases List.mem_append.1 hy with hy | hy
   ·exact hI.1.2 y hy
   ·simp at hy; subst hy; exact ⟨e,ho2⟩
 ·rintro o ⟨l',rfl,hl'⟩; exact zAB ⟨_,rfl,hl'⟩
theorem g19_t {B s k}(h:QI B s) : Tot (g19 s k) fun _=>True:=by
 unfold g19
 have hlen:=h.len
 refine Tot.bind (Q:=fun o=>g51 s k=some o) ?_ ?_
 ·obtain ⟨o,ho,_⟩:=g51_t s k
  rw [ho]; exact zAB rfl
 intro o ho
 refine zAR (fun _=>zAB trivial) (fun hc=>?_)
 have hk:=g51_s ho hc
 refine (tot_lrun (fun p:Int×List Int=>RQ s p.2∧0≤p.1∧p.1≤p.2.length) (fun p=>s.1.length+1 - p.1.toNat) (fun l=>l.length≤1000) (fun p hp=>?_) _ _ ⟨⟨by simp,fun x hx=>by simp at hx; subst hx; exact hk⟩,by simp,by simp⟩ (by simp)).bind fun l hl=>?_
 ·obtain ⟨i,out⟩:=p
  obtain ⟨h1,h2,h3⟩:=hp
  simp only at h1 h2 h3
  have hol:=h1.len
  unfold g19_b0
  refine zAR (fun hc=>?_) (fun _=>zAB (.inr ⟨_,rfl,by omega⟩))
  have hi : i < out.length:=by simpa using hc
  refine tot_ixz h2 hi ?_
  obtain ⟨e,he⟩:=h1.2 _ (zBV (d:=default) (show i.toNat < out.length by omega))
  rw [he]
  simp only [Option.bind_some]
  rw [Int.toNat_natCast]
  refine (g19_b1_t h (x:=e) h1).bind ?_
  rintro o ⟨out',rfl,g1,g2⟩
  have hw : w64 (i+1)=i+1:=w64_id ⟨by omega,by omega⟩
  refine zAB (.inl ⟨_,rfl,?_,?_⟩)
  ·rw [hw]; exact ⟨g1,by show 0≤i+1; omega,by show i+1≤(out'.length : Int); omega⟩
  ·rw [hw]; show s.1.length+1 - (i+1).toNat < s.1.length+1 - i.toNat; omega
 ·unfold sortI
  have : Nat.blt l.length 4611686018427387904=true:=by rw [Nat.blt_eq]; omega
  dsimp only
  rw [this]
  exact zAB trivial
abbrev NAct:=ZX
def ALight (x:NAct) : Prop:=∀ c∈x.2.2.2.2.1,CL c
theorem QI.put {B s k p b a}(h:QI B s) (hB:B≤900000) (hp:∀ c∈p,CL c) : Tot (g26 s k p b a) fun o=>QI (B+3) o.2.2:=(g26_t h (by omega) hp).mono fun _ h=>h.up (by omega)
theorem g10_t {B:Nat}{s:PSt}{q:QSt}{x:NAct}(h:PI B s) (g:QI B q) (hB:B≤900000) (hx:ALight x) : Tot (g10 s q x) fun o=>PI (B+3) o.2.1∧QI (B+3) o.2.2:=by
 have hs : PI (B+3) s:=h.up (by omega)
 have hq : QI (B+3) q:=g.up (by omega)
 unfold g10
 let R : ((Int×Int×PSt×QSt×Int×Int×Int×Int) ⊕ (Bool×PSt×QSt))→Prop:=fun o=>match o with
  | .inl y=>PI (B+3) y.2.2.1∧QI (B+3) y.2.2.2.1
  | .inr y=>PI (B+3) y.2.1∧QI (B+3) y.2.2
 refine Tot.bind (Q:=R) ?_ ?_
 ·refine Tot.bind (Q:=fun o=>∃ b,o=.inl b) (zAR (fun _=>zAB ⟨_,rfl⟩) (fun _=>zAB ⟨_,rfl⟩)) ?_
  rintro o ⟨b,rfl⟩
  refine zAR (fun _=>?_) (fun _=>?_)
  ·exact (g24_t h (by omega)).bind fun o ho=>(g25_t g (by omega)).bind fun o2 ho2=>zAB ⟨ho.up (by omega),ho2.up (by omega)⟩
  refine Tot.bind (Q:=fun o=>∃ b,o=.inl b) (zAR (fun _=>zAB ⟨_,rfl⟩) (fun _=>zAB ⟨_,rfl⟩)) ?_
  rintro o ⟨b,rfl⟩
  refine zAR (fun _=>?_) (fun _=>?_)
  ·exact (g12_t h).bind fun o ho=>(QI.put g hB hx).bind fun o2 ho2=>zAB ⟨ho.up (by omega),ho2⟩
  refine Tot.bind (Q:=fun o=>∃ b,o=.inl b) (zAR (fun _=>zAB ⟨_,rfl⟩) (fun _=>zAB ⟨_,rfl⟩)) ?_
  rintro o ⟨b,rfl⟩
  refine zAR (fun _=>?_) (fun _=>?_)
  ·exact (g23_t h).bind fun o ho=>(QI.put g hB hx).bind fun o2 ho2=>zAB ⟨ho.up (by omega),ho2⟩
  refine zAR (fun _=>?_) (fun _=>?_)
  ·exact (g13_t h).bind fun o ho=>(QI.put g hB hx).bind fun o2 ho2=>zAB ⟨ho.up (by omega),ho2⟩
  refine zAR (fun _=>?_) (fun _=>?_)
  ·exact (g27_t h).bind fun o ho=>(QI.put g hB hx).bind fun o2 ho2=>zAB ⟨ho.up (by omega),ho2⟩
  refine zAR (fun _=>?_) (fun _=>?_)
  ·exact (g28_t h (by omega)).bind fun o ho=>(g29_t g hB hx).bind fun o2 ho2=>zAB ⟨ho.up (by omega),ho2.up (by omega)⟩
  refine zAR (fun _=>?_) (fun _=>?_)
  ·exact (g14_t h).bind fun o ho=>(g30_t g (by omega) hx).bind fun o2 ho2=>zAB ⟨ho.up (by omega),ho2.up (by omega)⟩
  refine zAR (fun _=>?_) (fun _=>?_)
  ·exact (g31_t h).bind fun o ho=>(g32_t g (by omega)).bind fun o2 ho2=>zAB ⟨ho.up (by omega),ho2.up (by omega)⟩
  refine zAR (fun _=>?_) (fun _=>?_)
  ·exact (g33_t h (by omega)).bind fun o ho=>(g34_t g (by omega)).bind fun o2 ho2=>(g35_t _ _).bind fun _ _=>zAB ⟨hs,hq⟩
  refine zAR (fun _=>?_) (fun _=>?_)
  ·exact (g18_t h (by omega)).bind fun o ho=>(g19_t g).bind fun o2 ho2=>(g21_t _ _).bind fun _ _=>zAB ⟨hs,hq⟩
  ·exact (f16_t h).bind fun o ho=>(g36_t g hx).bind fun o2 ho2=>zAB ⟨hs,hq⟩
 ·rintro (⟨a,b,c,d,e,f,i,j⟩ | ⟨a,b,c⟩) hR
  ·exact zAB hR
  ·exact zAB hR
theorem g6_t (l:List NAct) : Tot (g6 l) fun b=>b=true→l.length≤60∧∀ x∈l,ALight x∧x.2.2.2.2.2.length≤60:=by
 unfold g6
 rw [Int.toNat_natCast]
 refine (zA1 (fun i _=>∀ j,j < i→ALight (l.getD j default)∧(l.getD j default).2.2.2.2.2.length≤60) (fun _=>True) (fun j hj=>by omega) (fun i u hi hI=>?_)).bind ?_
 ·unfold g6_b0
  refine zA2 hi ?_
  obtain ⟨x,hx⟩ : ∃ x,l.getD i default=x:=⟨_,rfl⟩
  rw [hx]
  refine zAR (fun _=>zAB (.inr ⟨_,rfl,trivial⟩)) (fun hc=>?_)
  rw [Int.toNat_natCast]
  refine (zA1 (fun i _=>∀ j,j < i→CL (x.2.2.2.2.1.getD j default)) (fun _=>True) (fun j hj=>by omega) (fun n u hn hN=>?_)).bind ?_
  ·unfold g6_b1
   refine zA2 hn (zAR (fun _=>zAB (.inr ⟨_,rfl,trivial⟩)) (fun hd=>zAB (.inl ⟨_,rfl,fun j hj=>?_⟩)))
   by_cases e : j=n
   ·subst e
    simp at hd
    unfold CL; simp only [List.getD_eq_getElem?_getD]; omega
   ·exact hN j (by omega)
  ·rintro o (⟨q',rfl,hq⟩ | ⟨r,rfl,hr⟩)
   ·refine zAB (.inl ⟨_,rfl,fun j hj=>?_⟩)
    by_cases e : j=i
    ·subst e
     rw [hx]
     simp at hc
     refine ⟨fun c hcm=>?_,by omega⟩
     obtain ⟨n,hn,rfl⟩:=zB4 (default:Str×Str) hcm
     exact hq n hn
    ·exact hI j (by omega)
   ·exact zAB (.inr ⟨_,rfl,trivial⟩)
 ·rintro o (⟨q',rfl,hq⟩ | ⟨r,rfl,hr⟩)
  ·refine zAB (fun hl=>⟨by simp at hl; omega,fun x hx=>?_⟩)
   obtain ⟨j,hj,rfl⟩:=zB4 (default:NAct) hx
   exact hq j hj
  ·exact zAB (fun e=>by cases e)
theorem acts_t {l:List NAct}(hl:l.length≤60) (hx:∀ x∈l,ALight x) : Tot (rng (g3_b0 l) l.length 0 (((mset [] 0 []),1,0),([(0,([] : QEnt))],1))) fun o=>∃ s,o=.inl s∧PI 1000 s.1∧QI 1000 s.2:=by
 refine (zAq (fun i (s:PSt×QSt)=>PI (1+3 * i) s.1∧QI (1+3 * i) s.2) ⟨PI.new,QI.new⟩ (fun i s hi hI=>?_)).mono ?_
 ·obtain ⟨s,q⟩:=s
  obtain ⟨h1,h2⟩:=hI
  unfold g3_b0
  refine Tot.bind (Q:=fun o=>∃ t,o=.inl t∧PI (1+3 * (i+1)) t.1∧QI (1+3 * (i+1)) t.2) (zA2 hi ?_) ?_
  ·refine zAR (fun _=>?_) (fun _=>zAB ⟨_,rfl,h1.up (by omega),h2.up (by omega)⟩)
   exact (g10_t h1 h2 (by omega) (hx _ (zBV hi))).bind fun o ho=>zAB ⟨_,rfl,ho.1,ho.2⟩
  ·rintro o ⟨t,rfl,ht⟩; exact zAB ⟨_,rfl,ht⟩
 ·rintro o ⟨s,rfl,h1,h2⟩
  exact ⟨s,rfl,h1.up (by omega),h2.up (by omega)⟩
theorem g4_b0_eq : g4_b0=g3_b0:=rfl
abbrev zDu : ZB:=((([] : Str),([] : Str)),([] : Str),0,false)
theorem wL1 (c:Str×Str) : w64 ((List.length [c] : Int) - 1)=0:=by rw [w64_id] <;> simp [R64]
theorem ixL1 (c:Str×Str) : ix [c] (w64 ((List.length [c] : Int) - 1))=some c:=by rw [wL1]; rfl
theorem g38_1 (s:PSt) (k:Int) (c:Str×Str) : g38 s k [c]=some ((mget s.1 k).getD [],(0,0),0):=by
 unfold g38; rw [wL1]; rfl
theorem g38o_1 {s:PSt}{k:Int}{c:Str×Str}(h:(mget s.1 k).isSome=true) : g38o s k [c]=some (.inr k):=by
 unfold g38o; rw [wL1,h]; rfl
def tell (m:List (Int×ZM)) (c:Str×Str) (o:Option zDL) : Option ((ZB)×Int):=match o with
 | none=>some (zDu,8)
 | some v=>(asS 91 v).bind fun a=>bif a.2 then some ((c,a.1,0,false),0) else (asI 86 .i64 v).bind fun b=>bif (mget m b.1).isSome then some ((c,[],b.1,true),0) else some (zDu,8)
theorem tell_n {m c} : tell m c none=some (zDu,8):=rfl
theorem tell_S {m c t} : tell m c (some (ifS 91 t))=some ((c,t,0,false),0):=by simp [tell,asS_S]
theorem tell_I {m c z} : tell m c (some (ifI 86 .i64 z))=bif (mget m z).isSome then some ((c,[],z,true),0) else some (zDu,8):=by simp [tell,asS_I,asI_I]
theorem f28_S (c:Str×Str) (t:Str) : f28 c (ifS 91 t)=some (c,t,0,false):=by simp [f28,asS_S]
theorem f28_I (c:Str×Str) (z:Int) : f28 c (ifI 86 .i64 z)=some (c,[],z,true):=by simp [f28,asS_I,asI_I]
theorem asI_N : asI 86 .i64 ifN=some (0,false):=rfl
theorem end_eq {s:PSt}{c:Str×Str}{e:ZM}{w:Int}(hv:∀ v,mget e c=some v→VOk v) :
  ∃ r,(((asI 86 .i64 ((mget e c).getD ifN)).bind fun x12 =>
   bif x12.2 then (some (.inl ((mget s.1 x12.1).isSome))) else (some (.inl ((mget e c).isSome)))) : Option (Bool ⊕ Unit)).bind (fun o10=>match o10 with
   | .inl s9=>(bif !s9 then (some (zDu,(w,(1:Int)),(8:Int))) else ((f28 c ((mget e c).getD ifN)).bind fun x16=>some (x16,((0:Int),(0:Int)),(0:Int))))
   | .inr _=>none)=some r∧tell s.1 c (mget e c)=some (r.1,r.2.2)∧r.2.1=bif decide (r.2.2=0) then (0,0) else (w,1):=by
 cases h : mget e c with
 | none=>simp only [Option.getD_none,asI_N]; exact ⟨_,rfl,rfl,rfl⟩
 | some v =>
  rcases hv v h with ⟨t,rfl⟩ | ⟨z,rfl⟩
  ·simp only [Option.getD_some,asI_S,Option.bind_some,cond_false,Option.isSome_some,Bool.not_true,f28_S,tell_S]
   exact ⟨_,rfl,rfl,rfl⟩
  ·simp only [Option.getD_some,asI_I,Option.bind_some,cond_true,f28_I,tell_I]
   cases (mget s.1 z).isSome
   ·exact ⟨_,rfl,rfl,rfl⟩
   ·exact ⟨_,rfl,rfl,rfl⟩
theorem f16_1 {B s}(h:PI B s) (k:Int) (c:Str×Str) : ∃ r,f16 s k [c]=some r∧((vOk [c]=false∧r=(zDu,(0,0),1))∨(vOk [c]=true∧mget s.1 k=none∧r=(zDu,(0,0),7))∨(vOk [c]=true∧∃ e,mget s.1 k=some e∧tell s.1 c (mget e c)=some (r.1,r.2.2)∧r.2.1=bif decide (r.2.2=0) then (0,0) else (0,1))):=by
 unfold f16
 rw [f26_eq]
 simp only [Option.bind_some]
 cases hv : vOk [c] with
 | false=>exact ⟨_,rfl,.inl ⟨rfl,rfl⟩⟩
 | true =>
  cases hk : mget s.1 k with
  | none=>exact ⟨_,rfl,.inr (.inl ⟨rfl,rfl,rfl⟩)⟩
  | some e =>
   rw [g38_1,hk,ixL1,wL1]
   obtain ⟨r,h1,h2,h3⟩:=end_eq (s:=s) (c:=c) (e:=e) (w:=0) fun v hv=>h.valm hk hv
   exact ⟨r,h1,.inr (.inr ⟨rfl,e,rfl,h2,h3⟩)⟩
theorem bind_1 {B s}(h:PI B s) (k:Int) (c:Str×Str) (t:Str) : Tot (g12 s k [c] t) fun o=>o.2.1≠0∨(vOk [c]=true∧∃ e n,mget s.1 k=some e∧o.2.2=(mset s.1 k (mset e c (ifS 91 t)),s.2.1,n)):=by
 unfold g12
 refine Tot.bind (Q:=fun o=>o.2.1≠0∨(vOk [c]=true∧∃ e n,mget s.1 k=some e∧o.2.2=(mset s.1 k (mset e c (ifS 91 t)),s.2.1,n))) ?_ (fun o ho=>zAB ho)
 unfold g40
 rw [f26_eq]
 simp only [Option.bind_some]
 cases hv : vOk [c] with
 | false=>exact zAB (.inl (by simp))
 | true =>
  cases hk : mget s.1 k with
  | none=>exact zAB (.inl (by simp))
  | some e =>
   have hi : (mget s.1 k).isSome=true:=by rw [hk]; rfl
   simp only [asS_S,Option.bind_some,cond_true,Bool.not_true,Option.isSome_some,cond_false,decide_true]
   cases h6 : decide (65536 < (t.length : Int)) with
   | true=>exact zAB (.inl (by simp))
   | false =>
    simp only [cond_false,Option.bind_some]
    rw [g38o_1 hi,ixL1]
    simp only [Option.bind_some,hk,Option.getD_some,Option.isSome_some,cond_true]
    cases hm : mget e c with
    | some v=>exact zAB (.inl (by simp))
    | none =>
     simp only [Option.isSome_none,Bool.false_and,cond_false,Bool.not_false,Bool.true_or,cond_true,Bool.true_and]
     cases h7 : decide (s.2.2=2000) with
     | true=>exact zAB (.inl (by simp))
     | false=>exact zAB (.inr ⟨by first | rfl | exact hv | trivial,e,_,rfl,rfl⟩)
theorem rebind_1 {s:PSt}{k:Int}{c:Str×Str}{e}{t0:Str}(hv:vOk [c]=true) (hk:mget s.1 k=some e) (hm:mget e c=some (ifS 91 t0)) (t:Str) : Tot (g13 s k [c] t) fun o=>(65536 < t.length∧o.2.1≠0)∨(o.2.1=0∧∃ n,o.2.2=(mset s.1 k (mset e c (ifS 91 t)),s.2.1,n)):=by
 unfold g13
 refine Tot.bind (Q:=fun o=>(65536 < t.length∧o.2.1≠0)∨(o.2.1=0∧∃ n,o.2.2=(mset s.1 k (mset e c (ifS 91 t)),s.2.1,n))) ?_ (fun o ho=>zAB ho)
 unfold g40
 rw [f26_eq]
 have hi : (mget s.1 k).isSome=true:=by rw [hk]; rfl
 simp only [Option.bind_some,hv,hi,asS_S,cond_true,Bool.not_true,Option.isSome_some,cond_false,decide_true]
 cases h6 : decide (65536 < (t.length : Int)) with
 | true=>exact zAB (.inl ⟨by simp at h6; omega,by simp⟩)
 | false =>
  simp only [cond_false,Option.bind_some]
  rw [g38o_1 hi,ixL1]
  simp only [Option.bind_some,hk,Option.getD_some,Option.isSome_some,cond_true,hm,inv_S,Bool.not_true,Bool.and_false,Bool.not_false,cond_false,Bool.or_true,decide_true,Bool.true_and,Bool.false_and]
  exact zAB (.inr ⟨rfl,_,rfl⟩)
theorem unbind_1 {s:PSt}{k:Int}{c:Str×Str}{e}{t0:Str}(hv:vOk [c]=true) (hk:mget s.1 k=some e) (hm:mget e c=some (ifS 91 t0)) : Tot (g14 s k [c]) fun o=>o.2.1=0∧∃ n,o.2.2=(mset s.1 k (mdel e c),s.2.1,n):=by
 unfold g14
 rw [f26_eq]
 have hi : (mget s.1 k).isSome=true:=by rw [hk]; rfl
 simp only [Option.bind_some,hv,hi,cond_true,Bool.not_true,cond_false,decide_true]
 rw [g38o_1 hi,ixL1]
 simp only [Option.bind_some,hk,Option.getD_some,Option.isSome_some,cond_true,hm,Bool.not_true,cond_false]
 exact zAB ⟨rfl,_,rfl⟩
theorem tell_cong {m m':List (Int×ZM)}(h:∀ z,(mget m' z).isSome=(mget m z).isSome) (c:Str×Str) (o:Option zDL) : tell m' c o=tell m c o:=by
 unfold tell
 cases o with
 | none=>rfl
 | some v=>simp only [h]
theorem some_mset {m:List (Int×ZM)}{k:Int}{e e'}(hk:mget m k=some e) (z:Int) : (mget (mset m k e') z).isSome=(mget m z).isSome:=by
 rw [zD4]
 by_cases h : z=k
 ·subst h; rw [if_pos rfl,hk]; rfl
 ·rw [if_neg h]
theorem mdel_self {e:ZM}{c:Str×Str}(h:(e.map (·.1)).Nodup) : mget (mdel e c) c=none:=by
 induction e with
 | nil=>rfl
 | cons p e ih =>
  rw [List.map_cons,List.nodup_cons] at h
  simp only [mdel]
  split
  ·rename_i e1
   cases hm : mget e c with
   | none=>rfl
   | some v=>exact absurd (e1 ▸ mg_key hm) h.1
  ·rename_i e1
   simp only [mget]
   rw [if_neg e1]; exact ih h.2
theorem bstr_two (a b:Str×Str) : (decide (bstr a.1=bstr b.1)&&decide (bstr a.2=bstr b.2))=decide (a=b):=by
 rw [bstr_dec,bstr_dec]
 obtain ⟨a1,a2⟩:=a
 obtain ⟨b1,b2⟩:=b
 by_cases h1 : a1=b1 <;> by_cases h2 : a2=b2 <;> simp [h1,h2]
theorem g4_t (l:List NAct) (k:Int) (c d:Str×Str) (t:Str) : g4 l k c d t=some true:=by
 apply Tot.eq
 unfold g4
 have h7 : Option.isSome g7=true:=by rw [g7_true]; rfl
 obtain ⟨b1,hb1,hc1⟩:=g6_t l
 obtain ⟨b2,hb2,hc2⟩:=g6_t [(0,0,0,0,[c,d],t)]
 rw [hb1,hb2,g7_true]
 simp only [Option.bind_some,Option.isSome_some,Option.getD_some,Bool.or_true,cond_true]
 refine zAR (fun _=>zAB rfl) (fun hc=>?_)
 simp at hc
 obtain ⟨e1,e2⟩:=hc
 obtain ⟨l1,l2⟩:=hc1 e1
 obtain ⟨_,l3⟩:=hc2 e2
 have ht : t.length≤60:=(l3 (0,0,0,0,[c,d],t) (by simp)).2
 have hL : t.length+List.length ([120] : Str)≤61:=by simp; omega
 simp only [f14,g9,Option.bind_some]
 rw [Int.toNat_natCast,g4_b0_eq]
 refine (acts_t l1 (fun x hx=>(l2 x hx).1)).bind ?_
 rintro o ⟨⟨s,q⟩,rfl,h,_⟩
 simp only at h
 obtain ⟨r0,hr0,hf0⟩:=f16_1 h k d
 simp only [hr0,Option.bind_some]
 obtain ⟨o1,ho1,hp1⟩:=g12_t (k:=k) (p:=[c]) (t:=t) h
 obtain ⟨o1',ho1',hq1⟩:=bind_1 h k c t
 rw [ho1] at ho1'; cases ho1'
 rw [ho1]
 simp only [Option.bind_some]
 refine zAR (fun _=>zAB rfl) (fun hc=>?_)
 have hz : o1.2.1=0:=by simpa using hc
 rcases hq1 with hq1 | ⟨hv,e,n,hk,hs1⟩
 ·exact absurd hz hq1
 obtain ⟨s1,hs1'⟩ : ∃ s1,o1.2.2=s1:=⟨_,rfl⟩
 rw [hs1'] at hp1 hs1 ⊢
 have hk1 : mget s1.1 k=some (mset e c (ifS 91 t)):=by rw [hs1,zD4,if_pos rfl]
 have hm1 : mget (mset e c (ifS 91 t)) c=some (ifS 91 t):=by rw [zD4,if_pos rfl]
 -- what was bound is told
 obtain ⟨r1,hr1,hf1⟩:=f16_1 hp1 k c
 have hR1 : r1=((c,t,0,false),(0,0),0):=by
  rcases hf1 with ⟨a,_⟩ | ⟨_,a,_⟩ | ⟨_,e',a,b,d'⟩
  ·rw [hv] at a; cases a
  ·rw [hk1] at a; cases a
  ·rw [hk1] at a; cases a
   rw [hm1,tell_S] at b
   obtain ⟨x,y,z⟩:=r1
   simp only [Option.some.injEq,Prod.mk.injEq] at b d' ⊢
   obtain ⟨b1,b2⟩:=b
   subst b2
   exact ⟨by rw [← b1],by simpa using d',rfl⟩
 rw [hr1,hR1]
 simp only [Option.bind_some,decide_true,Bool.not_true,Bool.false_or,Bool.and_self,cond_false,Bool.or_self]
 -- other names mean what they meant
 refine Tot.bind (Q:=fun o=>o=.inl ()) ?_ ?_
 ·refine zAR (fun hc=>?_) (fun _=>zAB rfl)
  rw [bstr_two] at hc
  have hne : c≠d:=by simpa using hc
  obtain ⟨r2,hr2,hf2⟩:=f16_1 hp1 k d
  have hR2 : r2=r0:=by
   rcases hf0 with ⟨a0,b0⟩ | ⟨_,a0,_⟩ | ⟨a0,e0,c0,d0,g0⟩
   ·rcases hf2 with ⟨_,b2⟩ | ⟨a,_⟩ | ⟨a,_⟩
    ·rw [b0,b2]
    ·rw [a0] at a; cases a
    ·rw [a0] at a; cases a
   ·rw [hk] at a0; cases a0
   ·rcases hf2 with ⟨a,_⟩ | ⟨_,a,_⟩ | ⟨_,e',a,b,d'⟩
    ·rw [a0] at a; cases a
    ·rw [hk1] at a; cases a
    ·rw [hk1] at a; cases a
     rw [hk] at c0; cases c0
     rw [zD4,if_neg (fun x=>hne x.symm),tell_cong (m:=s.1) (fun z=>by rw [hs1]; exact some_mset hk z),d0] at b
     obtain ⟨x,y,z⟩:=r2
     obtain ⟨x',y',z'⟩:=r0
     simp only [Option.some.injEq,Prod.mk.injEq] at b d' g0 ⊢
     obtain ⟨b1,b2⟩:=b
     subst b1 b2
     exact ⟨rfl,by rw [d',g0],rfl⟩
  rw [hr2,hR2]
  simp only [Option.bind_some,decide_true,Bool.and_self,Bool.not_true,Bool.or_self,cond_false]
  exact zAB rfl
 rintro o rfl
 dsimp only
 refine zAi (strOk_t (by omega)) ?_
 obtain ⟨o3,ho3,hp3⟩:=g13_t (k:=k) (p:=[c]) (t:=t++([120] : Str)) hp1
 obtain ⟨o3',ho3',hq3⟩:=rebind_1 hv hk1 hm1 (t++([120] : Str))
 rw [ho3] at ho3'; cases ho3'
 rw [ho3]
 simp only [Option.bind_some]
 rcases hq3 with ⟨h1,h2⟩ | ⟨h1,n3,hs3⟩
 ·exfalso; simp at h1; omega
 rw [h1]
 simp only [decide_true,Bool.not_true,cond_false]
 obtain ⟨s3,hs3'⟩ : ∃ s3,o3.2.2=s3:=⟨_,rfl⟩
 rw [hs3'] at hp3 hs3 ⊢
 obtain ⟨e3,he3⟩ : ∃ e3,mset (mset e c (ifS 91 t)) c (ifS 91 (t++([120] : Str)))=e3:=⟨_,rfl⟩
 have hk3 : mget s3.1 k=some e3:=by rw [hs3,zD4,if_pos rfl,he3]
 have hm3 : mget e3 c=some (ifS 91 (t++([120] : Str))):=by rw [← he3,zD4,if_pos rfl]
 obtain ⟨r4,hr4,hf4⟩:=f16_1 hp3 k c
 have hR4 : r4=((c,t++([120] : Str),0,false),(0,0),0):=by
  rcases hf4 with ⟨a,_⟩ | ⟨_,a,_⟩ | ⟨_,e',a,b,d'⟩
  ·rw [hv] at a; cases a
  ·rw [hk3] at a; cases a
  ·rw [hk3] at a; cases a
   rw [hm3,tell_S] at b
   obtain ⟨x,y,z⟩:=r4
   simp only [Option.some.injEq,Prod.mk.injEq] at b d' ⊢
   obtain ⟨b1,b2⟩:=b
   subst b2
   exact ⟨by rw [← b1],by simpa using d',rfl⟩
 rw [hr4,hR4]
 simp only [Option.bind_some,decide_true,Bool.not_true,Bool.false_or,cond_false,Bool.or_self]
 rw [show strOk (List.length t+List.length ([120] : Str))=true from strOk_t (by omega)]
 simp only [Bool.not_false,Bool.or_true,cond_true]
 obtain ⟨o5,ho5,hp5⟩:=g14_t (k:=k) (p:=[c]) hp3
 obtain ⟨o5',ho5',h5,n5,hs5⟩:=unbind_1 hv hk3 hm3
 rw [ho5] at ho5'; cases ho5'
 rw [ho5]
 simp only [Option.bind_some,h5,decide_true,Bool.not_true,cond_false]
 obtain ⟨s5,hs5'⟩ : ∃ s5,o5.2.2=s5:=⟨_,rfl⟩
 rw [hs5'] at hp5 hs5 ⊢
 have hk5 : mget s5.1 k=some (mdel e3 c):=by rw [hs5,zD4,if_pos rfl]
 have hm5 : mget (mdel e3 c) c=none:=mdel_self (hp3.ent k e3 hk3).1
 obtain ⟨r6,hr6,hf6⟩:=f16_1 hp5 k c
 have hR6 : r6.2.2=8∧r6.2.1=(0,1):=by
  rcases hf6 with ⟨a,_⟩ | ⟨_,a,_⟩ | ⟨_,e',a,b,d'⟩
  ·rw [hv] at a; cases a
  ·rw [hk5] at a; cases a
  ·rw [hk5] at a; cases a
   rw [hm5,tell_n] at b
   simp only [Option.some.injEq,Prod.mk.injEq] at b
   obtain ⟨b1,b2⟩:=b
   rw [← b2] at d' ⊢
   exact ⟨rfl,by simpa using d'⟩
 rw [hr6]
 simp only [Option.bind_some,hR6.1,hR6.2,decide_true,Bool.and_self,Bool.not_true,Bool.false_or,cond_true]
 exact zAB rfl
end Go.Ab
