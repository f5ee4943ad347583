/- Lemmas for a law of the seat: what functions of the program do, each stated as a contract of its own (X4). -/
import Derived.Test.YtlfdbjcbmecmlaaGreatX3
set_option linter.unusedVariables false
set_option maxRecDepth 100000
set_option maxHeartbeats 4000000
namespace Go.Ab
open Go.RowKit Go.Shelf Go.Proofs Go.Eng
theorem ent94 : Enters Tryz.prog 94:=enters_of Tryz.func94 (by kernel_rfl) rfl
theorem ent95 : Enters Tryz.prog 95:=enters_of Tryz.func95 (by kernel_rfl) rfl
theorem ent96 : Enters Tryz.prog 96:=enters_of Tryz.func96 (by kernel_rfl) rfl
theorem bt86 : zC4 Tryz.prog 86 (.agg #[.nilFunc,.nilFunc,.nilFunc]) (fun i=>some (i * 1,1)):=buildT_array (n:=3) (zeroX 86 J) (by kernel_rfl) (szX 85 J)
theorem zw4 : ZeroW Tryz.prog 4 .bool:=zeroW_of (z:=.bool false) (fun w=>by kernel_rfl) J (fun _=>rfl)
theorem ent13 : Enters Tryz.prog 13:=enters_of Tryz.func13 (by kernel_rfl) rfl
theorem ent98 : Enters Tryz.prog 98:=enters_of Tryz.func98 (by kernel_rfl) rfl
theorem bt91 : zC4 Tryz.prog 91 (.agg #[.map none,.map none,.map none]) (fun i=>[(0,1),(1,1),(2,1)][i]?):=zBn (zeroX 91 J) (fs:=Tryz.prog.fieldsOf 91) (by kernel_rfl) (fun w=>by kernel_rfl)
theorem ent49 : Enters Tryz.prog 49:=enters_of Tryz.func49 (by kernel_rfl) rfl
theorem fv42_2 : FieldV Tryz.prog 42 2 2 false 1:=fieldV_of' (fs:=Tryz.prog.fieldsOf 42) (by kernel_rfl) (by kernel_rfl) (tsX 33 J) (by decide)
theorem ent103 : Enters Tryz.prog 103:=enters_of Tryz.func103 (by kernel_rfl) rfl
theorem ent104 : Enters Tryz.prog 104:=enters_of Tryz.func104 (by kernel_rfl) rfl
theorem f95_runs {p0:ZO}{r:Int}(hr:f95 p0=some r) : zBb Tryz.prog 95 [.agg [.str p0.1,.i p0.2.1,.i p0.2.2.1,.i p0.2.2.2.1,.i p0.2.2.2.2.1,.i p0.2.2.2.2.2]] [.i r]:=by
 refine zAW Tryz.func95 Tryz.ntmps95 J (rs:=[.tmp 2]) J J fun w0 X hX=>?_
 refine sq<|rg<|O ob<|V va<|nl<|an<|sq<|rg<|V vfp<|V vlp<|V va<|?_
 obtain rfl:=Option.some.inj hr
 exact nl<|an<|cr<|zAk (l':=[(2,.i p0.2.2.2.2.1)]) (zAA hX [] 4 J J wS trivial) J ⟨rfl,trivial⟩
theorem f96_runs {p0:ZO}{r:Int}(hr:f96 p0=some r) : zBb Tryz.prog 96 [.agg [.str p0.1,.i p0.2.1,.i p0.2.2.1,.i p0.2.2.2.1,.i p0.2.2.2.2.1,.i p0.2.2.2.2.2]] [.i r]:=by
 refine zAW Tryz.func96 Tryz.ntmps96 J (rs:=[.tmp 2]) J J fun w0 X hX=>?_
 refine sq<|rg<|O ob<|V va<|nl<|an<|sq<|rg<|V vfp<|V vlp<|V va<|?_
 obtain rfl:=Option.some.inj hr
 exact nl<|an<|cr<|zAk (l':=[(2,.i p0.2.2.2.2.2)]) (zAA hX [] 4 J J wS trivial) J ⟨rfl,trivial⟩
theorem fdyn_runs {e:Nat}{p0:ZO}{r:Int}(h:fdyn e p0=some r) : zBb Tryz.prog e [.agg [.str p0.1,.i p0.2.1,.i p0.2.2.1,.i p0.2.2.2.1,.i p0.2.2.2.2.1,.i p0.2.2.2.2.2]] [.i r]:=by
 unfold fdyn at h
 split at h
 ·rename_i he; subst he; exact f94_runs h
 split at h
 ·rename_i he; subst he; exact f95_runs h
 split at h
 ·rename_i he; subst he; exact f96_runs h
 cases h
theorem fdyn_ent {e:Nat}{p0:ZO}{r:Int}(h:fdyn e p0=some r) : Enters Tryz.prog e:=by
 unfold fdyn at h
 split at h
 ·rename_i he; subst he; exact ent94
 split at h
 ·rename_i he; subst he; exact ent95
 split at h
 ·rename_i he; subst he; exact ent96
 cases h
theorem f49_runs {r:Unit}(hr:f49=some r) : zBb Tryz.prog 49 [] [.agg [.fn 94 [] [],.fn 95 [] [],.fn 96 [] []]]:=by
 refine zAW Tryz.func49 Tryz.ntmps49 J (rs:=[.cell 0 86]) J J fun w0 X hX=>?_
 refine sq<|rg<|O oa<|nl<|an<|sq<|rg<|?_
 refine V (zAs (qs:=[(0,[.fn 94 [] []]),(1,[.fn 95 [] []]),(2,[.fn 96 [] []])]) (cs:=[.fn 94 [] [],.fn 95 [] [],.fn 96 [] []]) bt86 J J J)<|O os<|?_
 obtain rfl:=Option.some.inj hr
 exact nl<|an<|cr<|zAk (l':=[(0,.rp [.fn 94 [] [],.fn 95 [] [],.fn 96 [] []])]) (zAA hX [] 4 J J wS trivial) J ⟨(.inr ⟨_,3,rfl,(tsX 86 J),rfl,rfl⟩),trivial⟩
theorem f13_runs {p0:ZW}{r:List Int}(hr:f13 p0=some r) : Runs Tryz.prog 13 [.rp (D76 p0)] [] (fun q Hq=>q=[.osl 0]∧Hq=[.sl 3 .i r]):=by
 refine zAW Tryz.func13 Tryz.ntmps13 J (rs:=[.tmp 2]) J J fun w0 X hX=>?_
 obtain ⟨x2,e3,hr⟩:=zA hr
 refine sq<|rg<|V va<|nl<|an<|sq<|sq<|rg<|V vm<|?_
 refine V (zCj (undX 26 J) J J)<|nl<|an<|?_
 refine zA3 rfl<|sk<|an<|sq<|rg<|V vm<|V vnr<|V vfr<|V vlr<|?_
 refine zAK (zAP (σ:=[]) (as':=[.dm .i Y5 p0.2.2.1]) (f54_runs e3).x ent54 J ⟨cv0,trivial⟩ J J J ?_)
 obtain ⟨x4,e5,hr⟩:=zA hr
 refine zAK (zAP (σ:=[0]) (as':=[.fn 101 [] [.ptr 0 0]]) (f53_101_runs e5).x ent53 J ⟨cv0,trivial⟩ J J J ?_)
 refine V va<|?_
 obtain rfl:=Option.some.inj hr
 exact nl<|an<|cr<|zAe (l':=[(2,.osl 0)]) (Hs:=[(0,.sl 3 .i x4)]) (n:=1) (zAA hX [1] 4 J J wS wO) J J J ⟨rfl,trivial⟩
theorem f98_rec {rec:Int→(List (Int×Bool))→(List (Int×Bool))→(List (Int×Bool))→(ZW)→Nat→Option ((List (Int×Bool))×(List (Int×Bool))×(List (Int×Bool)))}{p0:Int}{p1_0:List (Int×Bool)}{p1_1:List (Int×Bool)}{p1_2:List (Int×Bool)}{p2:ZW}{p3:Nat}{r:(List (Int×Bool))×(List (Int×Bool))×(List (Int×Bool))}(ih:∀ {p0:Int}{p1_0:List (Int×Bool)}{p1_1:List (Int×Bool)}{p1_2:List (Int×Bool)}{p2:ZW}{p3:Nat}{r:(List (Int×Bool))×(List (Int×Bool))×(List (Int×Bool))},rec p0 p1_0 p1_1 p1_2 p2 p3=some r→Runs Tryz.prog 98 [.i p0,.ptr 0 0,.rp [.rp (D76 p2)],.rp [.fn p3 [] []],.ptr 4 0] [.var 91 [.map 1,.map 2,.map 3],.map .i .bool p1_0,.map .i .bool p1_1,.map .i .bool p1_2,.var 133 [.fn 98 [] [.ptr 0 0,.rp [.rp (D76 p2)],.rp [.fn p3 [] []],.ptr 4 0]]] (fun q Hq=>q=[]∧Hq=[.var 91 [.map 1,.map 2,.map 3],.map .i .bool r.1,.map .i .bool r.2.1,.map .i .bool r.2.2,.var 133 [.fn 98 [] [.ptr 0 0,.rp [.rp (D76 p2)],.rp [.fn p3 [] []],.ptr 4 0]]])) (hr:f98_r rec p0 p1_0 p1_1 p1_2 p2 p3=some r) : Runs Tryz.prog 98 [.i p0,.ptr 0 0,.rp [.rp (D76 p2)],.rp [.fn p3 [] []],.ptr 4 0] [.var 91 [.map 1,.map 2,.map 3],.map .i .bool p1_0,.map .i .bool p1_1,.map .i .bool p1_2,.var 133 [.fn 98 [] [.ptr 0 0,.rp [.rp (D76 p2)],.rp [.fn p3 [] []],.ptr 4 0]]] (fun q Hq=>q=[]∧Hq=[.var 91 [.map 1,.map 2,.map 3],.map .i .bool r.1,.map .i .bool r.2.1,.map .i .bool r.2.2,.var 133 [.fn 98 [] [.ptr 0 0,.rp [.rp (D76 p2)],.rp [.fn p3 [] []],.ptr 4 0]]]):=by
 refine zAW Tryz.func98 Tryz.ntmps98 J (rs:=[]) J J fun w0 X hX=>?_
 refine awc_scope_<|sq<|sq<|rg<|V vfp<|V vlp<|V vm<|?_
 refine V (zBG (kx:=p0) (r:=.bool ((mget p1_0 p0).getD false)) (undX 89 J) kt3 zw4 J J J J J)<|nl<|an<|?_
 refine cnd (fun hc4 hr=>?_) (fun hc4 hr=>?_)
 ·obtain rfl:=Option.some.inj hr
  exact zAw (zAC (nogoto_ret (zAe (l':=[]) (Hs:=[(0,.var 91 [.map 1,.map 2,.map 3]),(1,.map .i .bool p1_0),(2,.map .i .bool p1_1),(3,.map .i .bool p1_2),(4,.var 133 [.fn 98 [] [.ptr 0 0,.rp [.rp (D76 p2)],.rp [.fn p3 [] []],.ptr 4 0]])]) (n:=5) (zAA hX [0,1,2,3,4] 4 J J trivial wO) J J J trivial)))
 refine sk<|an<|sq<|rg<|V vfp<|V vlp<|V vm<|?_
 refine zAK (zB (kx:=p0) (vx:=true) (undX 89 J) kt3 (.inl J) J J J J J J J ?_)
 obtain ⟨x5,e6,hr⟩:=zA hr
 refine nl<|an<|sq<|awc_label<|an<|sq<|rg<|V vlr<|?_
 refine zAK (zAP (σ:=[]) (as':=[.rp (D76 p2)]) (f13_runs e6).x ent13 J ⟨cv0,trivial⟩ J J J ?_)
 obtain ⟨o16,e17,hr⟩:=zA hr
 refine V vnL<|V vm<|nl<|an<|bl<|?_
 refine zA5 (i:=5) J J (fun hl=>?_)
 refine zAI (List.length x5 : Int) (f98_b0 p0 p2 p3 rec x5) (fun p=>match p with | (i7,s9,s10,s11)=>(⟨[(0,.i p0),(1,.ptr 0 0),(2,.rp [.rp (D76 p2)]),(3,.rp [.fn p3 [] []]),(4,.ptr 4 0),(22,.osl 5),(23,.i (List.length x5 : Int)),(24,.i i7)],[(0,.var 91 [.map 1,.map 2,.map 3]),(1,.map .i .bool s9),(2,.map .i .bool s10),(3,.map .i .bool s11),(4,.var 133 [.fn 98 [] [.ptr 0 0,.rp [.rp (D76 p2)],.rp [.fn p3 [] []],.ptr 4 0]]),(5,.sl 3 .i x5)],6⟩ : AS)) (fun o e st=>match o with | .inr _=>False | .inl (s9,s10,s11)=>e=.exit 0∧Wk X st ⟨[],[(0,.var 91 [.map 1,.map 2,.map 3]),(1,.map .i .bool s9),(2,.map .i .bool s10),(3,.map .i .bool s11),(4,.var 133 [.fn 98 [] [.ptr 0 0,.rp [.rp (D76 p2)],.rp [.fn p3 [] []],.ptr 4 0]])],5⟩) (zAf hl) e17 (by exact zAA hX [0,1,2,3,4,5] 4 J J wS wO) ?_ ?_
 ·intro e st hx
  rcases o16 with ⟨s9,s10,s11⟩ | _
  ·obtain ⟨rfl,hw⟩:=hx
   obtain rfl:=Option.some.inj hr
   exact zAl (nogoto_norm (zCz (zAe (l':=[]) (Hs:=[(0,.var 91 [.map 1,.map 2,.map 3]),(1,.map .i .bool s9),(2,.map .i .bool s10),(3,.map .i .bool s11),(4,.var 133 [.fn 98 [] [.ptr 0 0,.rp [.rp (D76 p2)],.rp [.fn p3 [] []],.ptr 4 0]])]) (n:=5) (Wk.trans hw (zAA hX [0,1,2,3,4] 4 J J trivial wO)) J J J trivial)))
  exact hx.elim
 rintro i7 ⟨s9,s10,s11⟩ o ho
 refine sq<|rg<|V vls<|nl<|an<|sq<|?_
 refine zAO (b:=decide (i7 < (List.length x5 : Int))) J (fun hc18=>?_) (fun hc18=>?_)
 ·obtain ⟨q,hr,rfl⟩:=zA7 hc18 ho
  obtain ⟨o22,e23,hr⟩:=zA hr
  refine sk<|an<|?_
  refine zAy (S:=(List (Int×Bool))×(List (Int×Bool))×(List (Int×Bool))) (R:=Unit) (fun s=>match s with | (s19,s20,s21)=>(⟨[(0,.i p0),(1,.ptr 0 0),(2,.rp [.rp (D76 p2)]),(3,.rp [.fn p3 [] []]),(4,.ptr 4 0),(22,.osl 5),(23,.i (List.length x5 : Int)),(24,.i i7)],[(0,.var 91 [.map 1,.map 2,.map 3]),(1,.map .i .bool s19),(2,.map .i .bool s20),(3,.map .i .bool s21),(4,.var 133 [.fn 98 [] [.ptr 0 0,.rp [.rp (D76 p2)],.rp [.fn p3 [] []],.ptr 4 0]]),(5,.sl 3 .i x5)],6⟩ : AS)) (fun _ _ _=>False) e23 (fun hr=>?_) ?_ ?_
  ·obtain ⟨x24,e25,hr⟩:=zA hr
   obtain ⟨x26,e27,hr⟩:=zA hr
   obtain ⟨o36,e37,hr⟩:=zA hr
   refine bl<|sq<|rg<|V (zAn (t:=.i) (undX 33 J) (szX 3 J) J J J e25)<|?_
   refine V (zAu (tsX 3 J) J J J (zCM e25) J)<|V va<|nl<|an<|sq<|rg<|V vlr<|V vnr<|V vfr<|V vlr<|V vm<|?_
   refine V (zBA (kx:=x24) (r:=.agg [.i ((((mget p2.2.2.1 x24).getD (0,([] : Str),[]))).1),.str (((((mget p2.2.2.1 x24).getD (0,([] : Str),[]))).2).1),.sl .i (((((mget p2.2.2.1 x24).getD (0,([] : Str),[]))).2).2)]) (undX 74 J) kt3 zw42 J J J J)<|O oa<|O os<|nl<|an<|sq<|rg<|V vlr<|V vfp<|V vlp<|?_
   refine V (zAV (f75_runs e27).x ent75 J J)<|V va<|nl<|an<|sq<|rg<|V vfp<|V vlp<|V vnl<|V vm<|nl<|an<|bl<|?_
   refine zAb (t:=39) J (fun hl=>?_)
   refine zAI (S:=(List (Int×Bool))) (R:=(List (Int×Bool))×(List (Int×Bool))×(List (Int×Bool))) (List.length (((((mget p2.2.2.1 x24).getD (0,([] : Str),[]))).2).2) : Int) (f98_b1 p0 p2 p3 rec s9 s11 x24 x26) (fun p=>match p with | (i28,s30)=>(⟨[(0,.i p0),(1,.ptr 0 0),(2,.rp [.rp (D76 p2)]),(3,.rp [.fn p3 [] []]),(4,.ptr 4 0),(7,.i x24),(8,.ptr 5 0),(9,.pd Y2 x26),(22,.osl 6),(23,.i (List.length x5 : Int)),(24,.i i7),(39,.sl .i (((((mget p2.2.2.1 x24).getD (0,([] : Str),[]))).2).2)),(40,.i (List.length (((((mget p2.2.2.1 x24).getD (0,([] : Str),[]))).2).2) : Int)),(41,.i i28)],[(0,.var 91 [.map 1,.map 2,.map 3]),(1,.map .i .bool s9),(2,.map .i .bool s30),(3,.map .i .bool s11),(4,.var 133 [.fn 98 [] [.ptr 0 0,.rp [.rp (D76 p2)],.rp [.fn p3 [] []],.ptr 4 0]]),(5,.var 42 [.i ((((mget p2.2.2.1 x24).getD (0,([] : Str),[]))).1),.str (((((mget p2.2.2.1 x24).getD (0,([] : Str),[]))).2).1),.sl .i (((((mget p2.2.2.1 x24).getD (0,([] : Str),[]))).2).2)]),(6,.sl 3 .i x5)],7⟩ : AS)) (fun o e st=>match o with | .inl s30=>e=.exit 2∧Wk X st ⟨[(0,.i p0),(1,.ptr 0 0),(2,.rp [.rp (D76 p2)]),(3,.rp [.fn p3 [] []]),(4,.ptr 4 0),(22,.osl 5),(23,.i (List.length x5 : Int)),(24,.i i7)],[(0,.var 91 [.map 1,.map 2,.map 3]),(1,.map .i .bool s9),(2,.map .i .bool s30),(3,.map .i .bool s11),(4,.var 133 [.fn 98 [] [.ptr 0 0,.rp [.rp (D76 p2)],.rp [.fn p3 [] []],.ptr 4 0]]),(5,.sl 3 .i x5)],6⟩ | .inr (s33,s34,s35)=>e=.exit 1∧Wk X st ⟨[(0,.i p0),(1,.ptr 0 0),(2,.rp [.rp (D76 p2)]),(3,.rp [.fn p3 [] []]),(4,.ptr 4 0),(22,.osl 5),(23,.i (List.length x5 : Int)),(24,.i i7)],[(0,.var 91 [.map 1,.map 2,.map 3]),(1,.map .i .bool s33),(2,.map .i .bool s34),(3,.map .i .bool s35),(4,.var 133 [.fn 98 [] [.ptr 0 0,.rp [.rp (D76 p2)],.rp [.fn p3 [] []],.ptr 4 0]]),(5,.sl 3 .i x5)],6⟩) (zAf hl) e37 (by exact zAA hX [0,1,2,3,4,6,5] 4 J J wS wO) ?_ ?_
   ·intro e st hx
    rcases o36 with s30 | ⟨s33,s34,s35⟩
    ·obtain ⟨rfl,hw⟩:=hx
     obtain rfl:=Option.some.inj hr
     exact zAl (zAS ((Wk.trans hw (zAA hX [0,1,2,3,4,5] 4 J J wS wO))))
    obtain ⟨rfl,hw⟩:=hx
    obtain rfl:=Option.some.inj hr
    exact (zBF J) (zAl ((Wk.trans hw (zAA hX [0,1,2,3,4,5] 4 J J wS wO))))
   rintro i28 s30 o ho
   refine sq<|rg<|V vls<|nl<|an<|sq<|?_
   refine zAO (b:=decide (i28 < (List.length (((((mget p2.2.2.1 x24).getD (0,([] : Str),[]))).2).2) : Int))) J (fun hc38=>?_) (fun hc38=>?_)
   ·obtain ⟨q,hr,rfl⟩:=zA7 hc38 ho
    obtain ⟨o43,e44,hr⟩:=zA hr
    refine sk<|an<|?_
    refine zAy (S:=(List (Int×Bool))) (R:=(List (Int×Bool))×(List (Int×Bool))×(List (Int×Bool))) (fun s=>match s with | s39=>(⟨[(0,.i p0),(1,.ptr 0 0),(2,.rp [.rp (D76 p2)]),(3,.rp [.fn p3 [] []]),(4,.ptr 4 0),(7,.i x24),(8,.ptr 5 0),(9,.pd Y2 x26),(22,.osl 6),(23,.i (List.length x5 : Int)),(24,.i i7),(39,.sl .i (((((mget p2.2.2.1 x24).getD (0,([] : Str),[]))).2).2)),(40,.i (List.length (((((mget p2.2.2.1 x24).getD (0,([] : Str),[]))).2).2) : Int)),(41,.i i28)],[(0,.var 91 [.map 1,.map 2,.map 3]),(1,.map .i .bool s9),(2,.map .i .bool s39),(3,.map .i .bool s11),(4,.var 133 [.fn 98 [] [.ptr 0 0,.rp [.rp (D76 p2)],.rp [.fn p3 [] []],.ptr 4 0]]),(5,.var 42 [.i ((((mget p2.2.2.1 x24).getD (0,([] : Str),[]))).1),.str (((((mget p2.2.2.1 x24).getD (0,([] : Str),[]))).2).1),.sl .i (((((mget p2.2.2.1 x24).getD (0,([] : Str),[]))).2).2)]),(6,.sl 3 .i x5)],7⟩ : AS)) (fun r e st=>match r with | (s40,s41,s42)=>e=.exit 1∧Wk X st ⟨[(0,.i p0),(1,.ptr 0 0),(2,.rp [.rp (D76 p2)]),(3,.rp [.fn p3 [] []]),(4,.ptr 4 0),(7,.i x24),(8,.ptr 5 0),(9,.pd Y2 x26),(22,.osl 6),(23,.i (List.length x5 : Int)),(24,.i i7),(39,.sl .i (((((mget p2.2.2.1 x24).getD (0,([] : Str),[]))).2).2)),(40,.i (List.length (((((mget p2.2.2.1 x24).getD (0,([] : Str),[]))).2).2) : Int)),(41,.i i28)],[(0,.var 91 [.map 1,.map 2,.map 3]),(1,.map .i .bool s40),(2,.map .i .bool s41),(3,.map .i .bool s42),(4,.var 133 [.fn 98 [] [.ptr 0 0,.rp [.rp (D76 p2)],.rp [.fn p3 [] []],.ptr 4 0]]),(5,.var 42 [.i ((((mget p2.2.2.1 x24).getD (0,([] : Str),[]))).1),.str (((((mget p2.2.2.1 x24).getD (0,([] : Str),[]))).2).1),.sl .i (((((mget p2.2.2.1 x24).getD (0,([] : Str),[]))).2).2)]),(6,.sl 3 .i x5)],7⟩) e44 (fun hr=>?_) ?_ ?_
    ·obtain ⟨x45,e46,hr⟩:=zA hr
     refine bl<|sq<|rg<|V vm<|?_
     refine V (zAQ (t:=.i) (e:=x45) (undX 33 J) (szX 3 J) J J e46)<|V vlr<|V va<|V va<|nl<|an<|sq<|sq<|rg<|V vm<|V vm<|V vne<|nl<|an<|?_
     refine cnd (fun hc47 hr=>?_) (fun hc47 hr=>?_)
     ·obtain rfl:=Option.some.inj hr
      exact zAH (zAF (zAl ((zAA hX [0,1,2,3,4,5,6] 4 J J wS wO))))
     obtain ⟨x48,e49,hr⟩:=zA hr
     obtain ⟨x50,e51,hr⟩:=zA hr
     obtain ⟨x52,e53,hr⟩:=zA hr
     refine sk<|an<|sq<|sq<|?_
     refine zBE mixed [0,1,2,3,4,7,8,9,22,23,24,39,40,41,10] [(true,.fn p3 [] []),(true,.pd Y2 x26),(true,.rp [.str x48.1,.sl Y1 x48.2]),(true,.rp [.sl Y1 x48.2]),(true,.sl Y1 x48.2),(true,.i i28),(true,.rp [.str x50.1,.i x50.2.1,.i x50.2.2.1,.i x50.2.2.2.1,.i x50.2.2.2.2.1,.i x50.2.2.2.2.2]),(true,.agg [.str x50.1,.i x50.2.1,.i x50.2.2.1,.i x50.2.2.2.1,.i x50.2.2.2.2.1,.i x50.2.2.2.2.2]),(true,.i x52)] [[],[],[1],[2],[3],[],[4,5],[6],[0,7]] [8] J J J J J ⟨oB wlr,oB wm,zAr J (fun hg=>zAD ⟨rfl,trivial⟩) (fun hg=>zCJ (t:=Y2) (y:=x48) J e49),oB wfr,oB wlr,oB wm,zAr J (fun hg=>zAD ⟨rfl,rfl,trivial⟩) (fun hg=>zAQ (t:=Y1) (e:=x50) (undX 45 J) (szX 49 J) J J e51),oB wlR,zAr J (fun hg=>zAD ⟨rfl,rfl,trivial⟩) (fun hg=>av_callv (as':=[.agg [.str x50.1,.i x50.2.1,.i x50.2.2.1,.i x50.2.2.2.1,.i x50.2.2.2.2.1,.i x50.2.2.2.2.2]]) J (fdyn_runs e53).x (fdyn_ent e53) J J J),trivial⟩ (zAD ⟨rfl,trivial⟩) ?_
     refine an<|bl<|sq<|rg<|V veq<|V va<|nl<|an<|?_
     refine cnd (fun hc54 hr=>?_) (fun hc54 hr=>?_)
     ·obtain rfl:=Option.some.inj hr
      exact zAH ((zBF J) (zAF (zAl ((zAA hX [0,1,2,3,4,5,6] 4 J J wS wO)))))
     refine sq<|rg<|V veq<|V va<|nl<|an<|?_
     refine cnd (fun hc55 hr=>?_) (fun hc55 hr=>?_)
     ·refine sq<|rg<|V vfp<|V vlp<|V vm<|?_
      refine zAK (zB (kx:=x24) (vx:=true) (undX 89 J) kt3 (.inl J) J J J J J J J ?_)
      obtain ⟨o65,e66,hr⟩:=zA hr
      refine nl<|an<|sq<|sq<|rg<|V vfp<|V vlp<|V vnl<|V vm<|nl<|an<|bl<|?_
      refine zAb (t:=39) J (fun hl=>?_)
      refine zAI (List.length (((((mget p2.2.2.1 x24).getD (0,([] : Str),[]))).2).2) : Int) (f98_b2 p2 p3 rec x24) (fun p=>match p with | (i56,s58,s59,s60)=>(⟨[(0,.i p0),(1,.ptr 0 0),(2,.rp [.rp (D76 p2)]),(3,.rp [.fn p3 [] []]),(4,.ptr 4 0),(7,.i x24),(8,.ptr 5 0),(9,.pd Y2 x26),(22,.osl 6),(23,.i (List.length x5 : Int)),(24,.i i7),(39,.sl .i (((((mget p2.2.2.1 x24).getD (0,([] : Str),[]))).2).2)),(40,.i (List.length (((((mget p2.2.2.1 x24).getD (0,([] : Str),[]))).2).2) : Int)),(41,.i i28),(66,.sl .i (((((mget p2.2.2.1 x24).getD (0,([] : Str),[]))).2).2)),(67,.i (List.length (((((mget p2.2.2.1 x24).getD (0,([] : Str),[]))).2).2) : Int)),(68,.i i56)],[(0,.var 91 [.map 1,.map 2,.map 3]),(1,.map .i .bool s58),(2,.map .i .bool s59),(3,.map .i .bool s60),(4,.var 133 [.fn 98 [] [.ptr 0 0,.rp [.rp (D76 p2)],.rp [.fn p3 [] []],.ptr 4 0]]),(5,.var 42 [.i ((((mget p2.2.2.1 x24).getD (0,([] : Str),[]))).1),.str (((((mget p2.2.2.1 x24).getD (0,([] : Str),[]))).2).1),.sl .i (((((mget p2.2.2.1 x24).getD (0,([] : Str),[]))).2).2)]),(6,.sl 3 .i x5)],7⟩ : AS)) (fun o e st=>match o with | .inr _=>False | .inl (s58,s59,s60)=>e=.exit 5∧Wk X st ⟨[(0,.i p0),(1,.ptr 0 0),(2,.rp [.rp (D76 p2)]),(3,.rp [.fn p3 [] []]),(4,.ptr 4 0),(7,.i x24),(8,.ptr 5 0),(9,.pd Y2 x26),(22,.osl 6),(23,.i (List.length x5 : Int)),(24,.i i7),(39,.sl .i (((((mget p2.2.2.1 x24).getD (0,([] : Str),[]))).2).2)),(40,.i (List.length (((((mget p2.2.2.1 x24).getD (0,([] : Str),[]))).2).2) : Int)),(41,.i i28)],[(0,.var 91 [.map 1,.map 2,.map 3]),(1,.map .i .bool s58),(2,.map .i .bool s59),(3,.map .i .bool s60),(4,.var 133 [.fn 98 [] [.ptr 0 0,.rp [.rp (D76 p2)],.rp [.fn p3 [] []],.ptr 4 0]]),(5,.var 42 [.i ((((mget p2.2.2.1 x24).getD (0,([] : Str),[]))).1),.str (((((mget p2.2.2.1 x24).getD (0,([] : Str),[]))).2).1),.sl .i (((((mget p2.2.2.1 x24).getD (0,([] : Str),[]))).2).2)]),(6,.sl 3 .i x5)],7⟩) (zAf hl) e66 (by exact zAA hX [0,1,2,3,4,5,6] 4 J J wS wO) ?_ ?_
      ·intro e st hx
       rcases o65 with ⟨s58,s59,s60⟩ | _
       ·obtain ⟨rfl,hw⟩:=hx
        obtain rfl:=Option.some.inj hr
        exact zAl (zAZ ((zAY hw) (zAH ((zBF J) (zAF ((zBF J) (⟨rfl,(zAA hX [0,1,2,3,4,5,6] 4 J J wS wO)⟩)))))))
       exact hx.elim
      rintro i56 ⟨s58,s59,s60⟩ o ho
      refine sq<|rg<|V vls<|nl<|an<|sq<|?_
      refine zAO (b:=decide (i56 < (List.length (((((mget p2.2.2.1 x24).getD (0,([] : Str),[]))).2).2) : Int))) J (fun hc67=>?_) (fun hc67=>?_)
      ·obtain ⟨q,hr,rfl⟩:=zA7 hc67 ho
       obtain ⟨x68,e69,hr⟩:=zA hr
       obtain ⟨x70,e71,hr⟩:=zA hr
       refine sk<|an<|sq<|bl<|sq<|rg<|V (zAQ (t:=.i) (e:=x68) (undX 33 J) (szX 3 J) J J e69)<|V vlr<|V va<|nl<|an<|rg<|V vlp<|V vm<|?_
       refine zAK (aop_callOv (σ:=[0,1,2,3,4]) (as':=[.i x68]) J (ih e71).x ent98 J ⟨cv0,cv0,cv0,cv0,cv0,trivial⟩ J J J ?_)
       refine nl<|bn<|an<|rg<|V vad<|V vm<|?_
       obtain rfl:=Option.some.inj hr
       exact zAJ ((zAA hX [0,1,2,3,4,5,6] 4 J J wS wO))
      obtain rfl:=zA8 hc67 ho
      exact zAH (zAF (⟨rfl,(zAA hX [0,1,2,3,4,5,6] 4 J J wS wO)⟩))
     refine sk<|bn<|an<|rg<|V vfp<|V vlp<|V vm<|?_
     refine zAK (zB (kx:=x24) (vx:=true) (undX 89 J) kt3 (.inl J) J J J J J J J ?_)
     obtain rfl:=Option.some.inj hr
     exact zAJ (zAS ((zAA hX [0,1,2,3,4,5,6] 4 J J wS wO)))
    ·rintro s39 rfl
     refine rg<|V vad<|V vm<|?_
     obtain rfl:=Option.some.inj hr
     exact zAJ ((zAA hX [0,1,2,3,4,5,6] 4 J J wS wO))
    rintro r rfl e st hne hx
    obtain ⟨s40,s41,s42⟩:=r
    obtain ⟨rfl,hw⟩:=hx
    obtain rfl:=Option.some.inj hr
    exact ⟨rfl,(Wk.trans hw (zAA hX [0,1,2,3,4,6] 4 J J wS wO))⟩
   obtain rfl:=zA8 hc38 ho
   exact zAH (zAF (⟨rfl,(zAA hX [0,1,2,3,4,6] 4 J J wS wO)⟩))
  ·rintro ⟨s19,s20,s21⟩ rfl
   refine rg<|V vad<|V vm<|?_
   obtain rfl:=Option.some.inj hr
   exact zAJ ((zAA hX [0,1,2,3,4,5] 4 J J wS wO))
  exact fun r h e st hne hx=>hx.elim
 obtain rfl:=zA8 hc18 ho
 exact zAH (zAF (⟨rfl,(zAA hX [0,1,2,3,4] 4 J J trivial wO)⟩))
theorem f98_runs : ∀ {n:Nat}{p0:Int}{p1_0:List (Int×Bool)}{p1_1:List (Int×Bool)}{p1_2:List (Int×Bool)}{p2:ZW}{p3:Nat}{r:(List (Int×Bool))×(List (Int×Bool))×(List (Int×Bool))},f98 n p0 p1_0 p1_1 p1_2 p2 p3=some r→Runs Tryz.prog 98 [.i p0,.ptr 0 0,.rp [.rp (D76 p2)],.rp [.fn p3 [] []],.ptr 4 0] [.var 91 [.map 1,.map 2,.map 3],.map .i .bool p1_0,.map .i .bool p1_1,.map .i .bool p1_2,.var 133 [.fn 98 [] [.ptr 0 0,.rp [.rp (D76 p2)],.rp [.fn p3 [] []],.ptr 4 0]]] (fun q Hq=>q=[]∧Hq=[.var 91 [.map 1,.map 2,.map 3],.map .i .bool r.1,.map .i .bool r.2.1,.map .i .bool r.2.2,.var 133 [.fn 98 [] [.ptr 0 0,.rp [.rp (D76 p2)],.rp [.fn p3 [] []],.ptr 4 0]]]):=by
 intro n
 induction n with
 | zero=>intro p0 p1_0 p1_1 p1_2 p2 p3 r hr; exact nomatch (show (none:Option ((List (Int×Bool))×(List (Int×Bool))×(List (Int×Bool))))=some r from hr)
 | succ n ih=>intro p0 p1_0 p1_1 p1_2 p2 p3 r hr; exact f98_rec (rec:=f98 n) (fun h=>ih h) hr
theorem f51_runs {p0:ZW}{p1:Int}{p2:Int}{r:(List (Int×Bool))×(List (Int×Bool))×(List (Int×Bool))}(hr:f51 p0 p1 p2=some r) : Runs Tryz.prog 51 [.rp (D76 p0),.i p1,.i p2] [] (fun q Hq=>q=[.agg [.map 0,.map 1,.map 2]]∧Hq=[.map .i .bool r.1,.map .i .bool r.2.1,.map .i .bool r.2.2]):=by
 refine zAW Tryz.func51 Tryz.ntmps51 J (rs:=[.cell 6 91]) J J fun w0 X hX=>?_
 refine sq<|rg<|O ob<|O oa<|nl<|an<|sq<|rg<|?_
 refine zAK (zB6 .i .bool J ?_)
 refine zAK (zB6 .i .bool J ?_)
 refine zAK (zB6 .i .bool J ?_)
 obtain ⟨x4,e5,hr⟩:=zA hr
 obtain ⟨x6,e7,hr⟩:=zA hr
 obtain ⟨x8,e9,hr⟩:=zA hr
 refine V (zAs (qs:=[(0,[.map 2]),(1,[.map 3]),(2,[.map 4])]) (cs:=[.map 2,.map 3,.map 4]) bt91 J J J)<|O oa<|O os<|nl<|an<|sq<|rg<|?_
 refine V (zAV (f49_runs e5).x ent49 J J)<|V vm<|V vsu<|?_
 refine V (av_index_fn (l:=[94,95,96]) (undX 86 J) (tsX 85 J) J J J e7)<|O oa<|O os<|nl<|an<|sq<|rg<|O oa<|nl<|an<|sq<|rg<|?_
 refine V (zA4 (us:=[]) (vs:=[.ptr 5 0,.ptr 0 0,.ptr 6 0,.ptr 7 0]) J J)<|O os<|nl<|an<|sq<|rg<|V vlp<|V vm<|?_
 refine zAG (zAA (st':=⟨[(0,.rp (D76 p0)),(1,.i p1),(2,.i p2),(3,.rp [.rp (D76 p0)]),(6,.ptr 0 0),(13,.map 1),(14,.map 2),(15,.map 3),(16,.agg [.map 1,.map 2,.map 3]),(7,.ptr 4 0),(17,.agg [.fn 94 [] [],.fn 95 [] [],.fn 96 [] []]),(18,.i p2),(19,.i (w64 (p2 - 1))),(20,.fn x6 [] []),(8,.rp [.fn x6 [] []]),(9,.ptr 5 0),(21,.fn 98 [] [.ptr 4 0,.rp [.rp (D76 p0)],.rp [.fn x6 [] []],.ptr 5 0]),(22,.fn 98 [] [.ptr 4 0,.rp [.rp (D76 p0)],.rp [.fn x6 [] []],.ptr 5 0]),(23,.i p1)],[(0,.var 91 [.nilm,.nilm,.nilm]),(1,.map .i .bool []),(2,.map .i .bool []),(3,.map .i .bool []),(4,.var 91 [.map 1,.map 2,.map 3]),(5,.var 133 [.fn 98 [] [.ptr 4 0,.rp [.rp (D76 p0)],.rp [.fn x6 [] []],.ptr 5 0]])],6⟩) hX [1,2,3,4,5,7] 4 J J wS wO)<|?_
 refine zAK (aop_callOv (σ:=[4,1,2,3,5]) (as':=[.i p1]) J (f98_runs e9).x ent98 J ⟨cv0,cv0,cv0,cv0,cv0,trivial⟩ J J J ?_)
 refine nl<|an<|sq<|sq<|rg<|V vfp<|V vlp<|?_
 refine zAK (zCW (undX 89 J) J J (fun xs10 hp11=>?_))
 obtain ⟨o16,e17,hr⟩:=zA hr
 refine nl<|an<|bl<|?_
 refine awc_nd (i:=3) J J (fun hn36=>?_)
 refine zCi (S:=(List (Int×Bool))) (R:=Unit) (f51_m0 p0 x8) (fun p=>match p with | (l12,c13,s14)=>(⟨[(3,.rp [.rp (D76 p0)]),(6,.ptr 0 0),(7,.ptr 1 0),(27,.map 2)],[(0,.var 91 [.nilm,.nilm,.nilm]),(1,.var 91 [.map 3,.map 4,.map 5]),(2,.dead),(3,.map .i .bool x8.1),(4,.mapr .i .bool x8.2.1 l12 c13 2),(5,.map .i .bool s14)],6⟩ : AS)) (fun o e st=>match o with | .inr _=>False | .inl s14=>e=.exit 0∧Wk X st ⟨[(6,.ptr 0 0),(7,.ptr 1 0)],[(0,.var 91 [.nilm,.nilm,.nilm]),(1,.var 91 [.map 2,.map 3,.map 4]),(2,.map .i .bool x8.1),(3,.map .i .bool x8.2.1),(4,.map .i .bool s14)],5⟩) (K:=fun r=>f51_m0_q r o16) (f51_m0_o hn36 e17) hp11 (by exact zAA hX [0,4,6,1,2,3] 4 J J wS wO) ?_ ?_
 ·intro r hq e st hx
  rcases o16 with s14 | o16
  ·rcases r with s14z | r
   ·have hq : s14z.Perm s14:=hq
    obtain ⟨rfl,hw⟩:=hx
    refine bh<|an<|(zAY (Wk.trans hw (wk_perm (i:=4) J J hq)))<|sq<|rg<|V vlP<|O os<|?_
    obtain rfl:=Option.some.inj hr
    exact nl<|an<|cr<|zAe (l':=[(6,.rp [.map 0,.map 1,.map 2])]) (Hs:=[(0,.map .i .bool x8.1),(1,.map .i .bool x8.2.1),(2,.map .i .bool s14)]) (n:=3) (zAA hX [2,3,4] 4 J J wS wO) J J J ⟨(.inr ⟨_,3,rfl,(tsX 91 J),rfl,rfl⟩),trivial⟩
   exact hq.elim
  rcases r with r | r
  ·exact hq.elim
  exact hx.elim
 rintro l12 c13 s14 K' hr
 refine sq<|rg<|?_
 refine zAK (zCr (i:=4) J J J (fun h21=>?_) (fun q18 p19 hq20=>?_))
 ·have hk:=hr.1 h21
  refine V vx<|?_
  exact zAJ (zAZ (awc_seq (zA3 J (zAH (zAF (⟨_,hk,rfl,(Wk.trans (wk_endr (i:=4) J J) (zAA hX [0,1,3,4,5] 4 J J wS wO))⟩))))))
 obtain ⟨o,hr,hk⟩:=hr.2 q18 p19 hq20
 obtain ⟨o27,e28,hr⟩:=zA hr
 refine V vx<|nl<|an<|sq<|?_
 refine zCZ rfl<|sk<|an<|bl<|sq<|rg<|V (zCq (i:=4) J J J J)<|V vx<|V va<|nl<|an<|sq<|rg<|V vlr<|V vnr<|V vfr<|V vlr<|V vm<|?_
 refine V (zBA (kx:=p19.1) (r:=.agg [.i ((((mget p0.2.2.1 p19.1).getD (0,([] : Str),[]))).1),.str (((((mget p0.2.2.1 p19.1).getD (0,([] : Str),[]))).2).1),.sl .i (((((mget p0.2.2.1 p19.1).getD (0,([] : Str),[]))).2).2)]) (undX 74 J) kt3 zw42 J J J J)<|?_
 refine V (av_field fv42_2 J J)<|V vnl<|V vm<|nl<|an<|bl<|?_
 refine zAb (t:=38) J (fun hl=>?_)
 refine zAI (List.length (((((mget p0.2.2.1 p19.1).getD (0,([] : Str),[]))).2).2) : Int) (f51_b1 p0 x8 p19) (fun p=>match p with | (i22,s24)=>(⟨[(3,.rp [.rp (D76 p0)]),(6,.ptr 0 0),(7,.ptr 1 0),(27,.map 2),(38,.sl .i (((((mget p0.2.2.1 p19.1).getD (0,([] : Str),[]))).2).2)),(39,.i (List.length (((((mget p0.2.2.1 p19.1).getD (0,([] : Str),[]))).2).2) : Int)),(40,.i i22)],[(0,.var 91 [.nilm,.nilm,.nilm]),(1,.var 91 [.map 3,.map 4,.map 5]),(2,.dead),(3,.map .i .bool x8.1),(4,.mapr .i .bool x8.2.1 (l12.eraseIdx q18) (some p19) 2),(5,.map .i .bool s24)],6⟩ : AS)) (fun o e st=>match o with | .inr _=>False | .inl s24=>e=.exit 2∧Wk X st ⟨[(3,.rp [.rp (D76 p0)]),(6,.ptr 0 0),(7,.ptr 1 0),(27,.map 2)],[(0,.var 91 [.nilm,.nilm,.nilm]),(1,.var 91 [.map 3,.map 4,.map 5]),(2,.dead),(3,.map .i .bool x8.1),(4,.mapr .i .bool x8.2.1 (l12.eraseIdx q18) (some p19) 2),(5,.map .i .bool s24)],6⟩) (zAf hl) e28 (by exact zAA hX [0,1,2,3,4,5] 4 J J wS wO) ?_ ?_
 ·intro e st hx
  rcases o27 with s24 | _
  ·obtain ⟨rfl,hw⟩:=hx
   obtain rfl:=Option.some.inj hr
   exact zAl (zAS (⟨_,hk (some p19),(Wk.trans hw (zAA hX [0,1,2,3,4,5] 4 J J wS wO))⟩))
  exact hx.elim
 rintro i22 s24 o ho
 refine sq<|rg<|V vls<|nl<|an<|sq<|?_
 refine zAO (b:=decide (i22 < (List.length (((((mget p0.2.2.1 p19.1).getD (0,([] : Str),[]))).2).2) : Int))) J (fun hc29=>?_) (fun hc29=>?_)
 ·obtain ⟨q,hr,rfl⟩:=zA7 hc29 ho
  obtain ⟨o31,e32,hr⟩:=zA hr
  refine sk<|an<|?_
  refine zAy (S:=(List (Int×Bool))) (R:=Unit) (fun s=>match s with | s30=>(⟨[(3,.rp [.rp (D76 p0)]),(6,.ptr 0 0),(7,.ptr 1 0),(27,.map 2),(38,.sl .i (((((mget p0.2.2.1 p19.1).getD (0,([] : Str),[]))).2).2)),(39,.i (List.length (((((mget p0.2.2.1 p19.1).getD (0,([] : Str),[]))).2).2) : Int)),(40,.i i22)],[(0,.var 91 [.nilm,.nilm,.nilm]),(1,.var 91 [.map 3,.map 4,.map 5]),(2,.dead),(3,.map .i .bool x8.1),(4,.mapr .i .bool x8.2.1 (l12.eraseIdx q18) (some p19) 2),(5,.map .i .bool s30)],6⟩ : AS)) (fun _ _ _=>False) e32 (fun hr=>?_) ?_ ?_
  ·obtain ⟨x33,e34,hr⟩:=zA hr
   refine bl<|sq<|rg<|V (zAQ (t:=.i) (e:=x33) (undX 33 J) (szX 3 J) J J e34)<|V vlr<|V va<|nl<|an<|sq<|rg<|V vfp<|V vlp<|V vm<|?_
   refine V (zBG (kx:=x33) (r:=.bool ((mget x8.1 x33).getD false)) (undX 89 J) kt3 zw4 J J J J J)<|V vno<|nl<|an<|?_
   refine cnd (fun hc35 hr=>?_) (fun hc35 hr=>?_)
   ·refine rg<|V vfp<|V vlp<|V vm<|?_
    refine zAK (zB (kx:=x33) (vx:=true) (undX 89 J) kt3 (.inl J) J J J J J J J ?_)
    obtain rfl:=Option.some.inj hr
    exact zAJ (zAS ((zAA hX [0,1,2,3,4,5] 4 J J wS wO)))
   obtain rfl:=Option.some.inj hr
   exact zAv (zAS ((zAA hX [0,1,2,3,4,5] 4 J J wS wO)))
  ·rintro s30 rfl
   refine rg<|V vad<|V vm<|?_
   obtain rfl:=Option.some.inj hr
   exact zAJ ((zAA hX [0,1,2,3,4,5] 4 J J wS wO))
  exact fun r h e st hne hx=>hx.elim
 obtain rfl:=zA8 hc29 ho
 exact zAH (zAF (⟨rfl,(zAA hX [0,1,2,3,4,5] 4 J J wS wO)⟩))
theorem f59_runs {p0_0:ZW}{r:(ZW)}(hr:f59 p0_0=some r) : Runs Tryz.prog 59 [.ptr 0 0] [.tr E76 (some p0_0)] (fun q Hq=>q=[.ptr 1 0]∧Hq=[.tr E76 (some p0_0),.tr E76 (some r)]):=by
 refine zAW Tryz.func59 Tryz.ntmps59 J (rs:=[.tmp 2]) J J fun w0 X hX=>?_
 obtain ⟨x2,e3,hr⟩:=zA hr
 obtain ⟨x4,e5,hr⟩:=zA hr
 refine sq<|rg<|V va<|nl<|an<|sq<|rg<|V vm<|V vnp<|?_
 refine zAG (zAd (i:=0) (W76 p0_0 1 2) [.map .i Y4 p0_0.2.1,.map .i Y5 p0_0.2.2.1] J J J J)<|V vlP<|O oa<|O os<|nl<|an<|sq<|?_
 refine awc_drawS mixed (([false,false,false,false,false,false,false,false,false,false,false,false,false,false],⟨[(0,.ptr 0 0),(2,.nilp),(3,.ptr 3 0)],[(0,.var 76 (W76 p0_0 1 2)),(1,.map .i Y4 p0_0.2.1),(2,.map .i Y5 p0_0.2.2.1),(3,.var 76 (W76 p0_0 1 2))],4⟩,[0,5])::([true,false,false,false,false,false,false,false,false,false,false,false,false,false],⟨[(0,.ptr 0 0),(2,.nilp),(3,.ptr 3 0),(7,.ptr 0 0)],[(0,.var 76 (W76 p0_0 1 2)),(1,.map .i Y4 p0_0.2.1),(2,.map .i Y5 p0_0.2.2.1),(3,.var 76 (W76 p0_0 1 2))],4⟩,[1,5])::([false,false,false,false,false,true,false,false,false,false,false,false,false,false],⟨[(0,.ptr 0 0),(2,.nilp),(3,.ptr 3 0),(12,.ptr 0 0)],[(0,.var 76 (W76 p0_0 1 2)),(1,.map .i Y4 p0_0.2.1),(2,.map .i Y5 p0_0.2.2.1),(3,.var 76 (W76 p0_0 1 2))],4⟩,[0,6])::([true,true,false,false,false,false,false,false,false,false,false,false,false,false],⟨[(0,.ptr 0 0),(2,.nilp),(3,.ptr 3 0),(7,.ptr 0 0),(8,.ptr 0 0)],[(0,.var 76 (W76 p0_0 1 2)),(1,.map .i Y4 p0_0.2.1),(2,.map .i Y5 p0_0.2.2.1),(3,.var 76 (W76 p0_0 1 2))],4⟩,[2,5])::([true,false,false,false,false,true,false,false,false,false,false,false,false,false],⟨[(0,.ptr 0 0),(2,.nilp),(3,.ptr 3 0),(7,.ptr 0 0),(12,.ptr 0 0)],[(0,.var 76 (W76 p0_0 1 2)),(1,.map .i Y4 p0_0.2.1),(2,.map .i Y5 p0_0.2.2.1),(3,.var 76 (W76 p0_0 1 2))],4⟩,[1,6])::([false,false,false,false,false,true,true,false,false,false,false,false,false,false],⟨[(0,.ptr 0 0),(2,.nilp),(3,.ptr 3 0),(12,.ptr 0 0),(13,.ptr 0 0)],[(0,.var 76 (W76 p0_0 1 2)),(1,.map .i Y4 p0_0.2.1),(2,.map .i Y5 p0_0.2.2.1),(3,.var 76 (W76 p0_0 1 2))],4⟩,[0,7])::([true,true,true,false,false,false,false,false,false,false,false,false,false,false],⟨[(0,.ptr 0 0),(2,.nilp),(3,.ptr 3 0),(7,.ptr 0 0),(8,.ptr 0 0),(9,.ptr 0 1)],[(0,.var 76 (W76 p0_0 1 2)),(1,.map .i Y4 p0_0.2.1),(2,.map .i Y5 p0_0.2.2.1),(3,.var 76 (W76 p0_0 1 2))],4⟩,[3,5])::([true,true,false,false,false,true,false,false,false,false,false,false,false,false],⟨[(0,.ptr 0 0),(2,.nilp),(3,.ptr 3 0),(7,.ptr 0 0),(8,.ptr 0 0),(12,.ptr 0 0)],[(0,.var 76 (W76 p0_0 1 2)),(1,.map .i Y4 p0_0.2.1),(2,.map .i Y5 p0_0.2.2.1),(3,.var 76 (W76 p0_0 1 2))],4⟩,[2,6])::([true,false,false,false,false,true,true,false,false,false,false,false,false,false],⟨[(0,.ptr 0 0),(2,.nilp),(3,.ptr 3 0),(7,.ptr 0 0),(12,.ptr 0 0),(13,.ptr 0 0)],[(0,.var 76 (W76 p0_0 1 2)),(1,.map .i Y4 p0_0.2.1),(2,.map .i Y5 p0_0.2.2.1),(3,.var 76 (W76 p0_0 1 2))],4⟩,[1,7])::([false,false,false,false,false,true,true,true,false,false,false,false,false,false],⟨[(0,.ptr 0 0),(2,.nilp),(3,.ptr 3 0),(12,.ptr 0 0),(13,.ptr 0 0),(14,.ptr 0 2)],[(0,.var 76 (W76 p0_0 1 2)),(1,.map .i Y4 p0_0.2.1),(2,.map .i Y5 p0_0.2.2.1),(3,.var 76 (W76 p0_0 1 2))],4⟩,[0,8])::([true,true,true,true,false,false,false,false,false,false,false,false,false,false],⟨[(0,.ptr 0 0),(2,.nilp),(3,.ptr 3 0),(7,.ptr 0 0),(8,.ptr 0 0),(9,.ptr 0 1),(10,.map 1)],[(0,.var 76 (W76 p0_0 1 2)),(1,.map .i Y4 p0_0.2.1),(2,.map .i Y5 p0_0.2.2.1),(3,.var 76 (W76 p0_0 1 2))],4⟩,[4,5])::([true,true,true,false,false,true,false,false,false,false,false,false,false,false],⟨[(0,.ptr 0 0),(2,.nilp),(3,.ptr 3 0),(7,.ptr 0 0),(8,.ptr 0 0),(9,.ptr 0 1),(12,.ptr 0 0)],[(0,.var 76 (W76 p0_0 1 2)),(1,.map .i Y4 p0_0.2.1),(2,.map .i Y5 p0_0.2.2.1),(3,.var 76 (W76 p0_0 1 2))],4⟩,[3,6])::([true,true,false,false,false,true,true,false,false,false,false,false,false,false],⟨[(0,.ptr 0 0),(2,.nilp),(3,.ptr 3 0),(7,.ptr 0 0),(8,.ptr 0 0),(12,.ptr 0 0),(13,.ptr 0 0)],[(0,.var 76 (W76 p0_0 1 2)),(1,.map .i Y4 p0_0.2.1),(2,.map .i Y5 p0_0.2.2.1),(3,.var 76 (W76 p0_0 1 2))],4⟩,[2,7])::([true,false,false,false,false,true,true,true,false,false,false,false,false,false],⟨[(0,.ptr 0 0),(2,.nilp),(3,.ptr 3 0),(7,.ptr 0 0),(12,.ptr 0 0),(13,.ptr 0 0),(14,.ptr 0 2)],[(0,.var 76 (W76 p0_0 1 2)),(1,.map .i Y4 p0_0.2.1),(2,.map .i Y5 p0_0.2.2.1),(3,.var 76 (W76 p0_0 1 2))],4⟩,[1,8])::([false,false,false,false,false,true,true,true,true,false,false,false,false,false],⟨[(0,.ptr 0 0),(2,.nilp),(3,.ptr 3 0),(12,.ptr 0 0),(13,.ptr 0 0),(14,.ptr 0 2),(15,.map 2)],[(0,.var 76 (W76 p0_0 1 2)),(1,.map .i Y4 p0_0.2.1),(2,.map .i Y5 p0_0.2.2.1),(3,.var 76 (W76 p0_0 1 2))],4⟩,[0])::([true,true,true,true,true,false,false,false,false,false,false,false,false,false],⟨[(0,.ptr 0 0),(2,.nilp),(3,.ptr 3 0),(7,.ptr 0 0),(8,.ptr 0 0),(9,.ptr 0 1),(10,.map 1),(11,.map 4)],[(0,.var 76 (W76 p0_0 1 2)),(1,.map .i Y4 p0_0.2.1),(2,.map .i Y5 p0_0.2.2.1),(3,.var 76 (W76 p0_0 1 2)),(4,.map .i Y4 x2)],5⟩,[5])::([true,true,true,true,false,true,false,false,false,false,false,false,false,false],⟨[(0,.ptr 0 0),(2,.nilp),(3,.ptr 3 0),(7,.ptr 0 0),(8,.ptr 0 0),(9,.ptr 0 1),(10,.map 1),(12,.ptr 0 0)],[(0,.var 76 (W76 p0_0 1 2)),(1,.map .i Y4 p0_0.2.1),(2,.map .i Y5 p0_0.2.2.1),(3,.var 76 (W76 p0_0 1 2))],4⟩,[4,6])::([true,true,true,false,false,true,true,false,false,false,false,false,false,false],⟨[(0,.ptr 0 0),(2,.nilp),(3,.ptr 3 0),(7,.ptr 0 0),(8,.ptr 0 0),(9,.ptr 0 1),(12,.ptr 0 0),(13,.ptr 0 0)],[(0,.var 76 (W76 p0_0 1 2)),(1,.map .i Y4 p0_0.2.1),(2,.map .i Y5 p0_0.2.2.1),(3,.var 76 (W76 p0_0 1 2))],4⟩,[3,7])::([true,true,false,false,false,true,true,true,false,false,false,false,false,false],⟨[(0,.ptr 0 0),(2,.nilp),(3,.ptr 3 0),(7,.ptr 0 0),(8,.ptr 0 0),(12,.ptr 0 0),(13,.ptr 0 0),(14,.ptr 0 2)],[(0,.var 76 (W76 p0_0 1 2)),(1,.map .i Y4 p0_0.2.1),(2,.map .i Y5 p0_0.2.2.1),(3,.var 76 (W76 p0_0 1 2))],4⟩,[2,8])::([true,false,false,false,false,true,true,true,true,false,false,false,false,false],⟨[(0,.ptr 0 0),(2,.nilp),(3,.ptr 3 0),(7,.ptr 0 0),(12,.ptr 0 0),(13,.ptr 0 0),(14,.ptr 0 2),(15,.map 2)],[(0,.var 76 (W76 p0_0 1 2)),(1,.map .i Y4 p0_0.2.1),(2,.map .i Y5 p0_0.2.2.1),(3,.var 76 (W76 p0_0 1 2))],4⟩,[1])::([true,true,true,true,true,true,false,false,false,false,false,false,false,false],⟨[(0,.ptr 0 0),(2,.nilp),(3,.ptr 3 0),(7,.ptr 0 0),(8,.ptr 0 0),(9,.ptr 0 1),(10,.map 1),(11,.map 4),(12,.ptr 0 0)],[(0,.var 76 (W76 p0_0 1 2)),(1,.map .i Y4 p0_0.2.1),(2,.map .i Y5 p0_0.2.2.1),(3,.var 76 (W76 p0_0 1 2)),(4,.map .i Y4 x2)],5⟩,[6])::([true,true,true,true,false,true,true,false,false,false,false,false,false,false],⟨[(0,.ptr 0 0),(2,.nilp),(3,.ptr 3 0),(7,.ptr 0 0),(8,.ptr 0 0),(9,.ptr 0 1),(10,.map 1),(12,.ptr 0 0),(13,.ptr 0 0)],[(0,.var 76 (W76 p0_0 1 2)),(1,.map .i Y4 p0_0.2.1),(2,.map .i Y5 p0_0.2.2.1),(3,.var 76 (W76 p0_0 1 2))],4⟩,[4,7])::([true,true,true,false,false,true,true,true,false,false,false,false,false,false],⟨[(0,.ptr 0 0),(2,.nilp),(3,.ptr 3 0),(7,.ptr 0 0),(8,.ptr 0 0),(9,.ptr 0 1),(12,.ptr 0 0),(13,.ptr 0 0),(14,.ptr 0 2)],[(0,.var 76 (W76 p0_0 1 2)),(1,.map .i Y4 p0_0.2.1),(2,.map .i Y5 p0_0.2.2.1),(3,.var 76 (W76 p0_0 1 2))],4⟩,[3,8])::([true,true,false,false,false,true,true,true,true,false,false,false,false,false],⟨[(0,.ptr 0 0),(2,.nilp),(3,.ptr 3 0),(7,.ptr 0 0),(8,.ptr 0 0),(12,.ptr 0 0),(13,.ptr 0 0),(14,.ptr 0 2),(15,.map 2)],[(0,.var 76 (W76 p0_0 1 2)),(1,.map .i Y4 p0_0.2.1),(2,.map .i Y5 p0_0.2.2.1),(3,.var 76 (W76 p0_0 1 2))],4⟩,[2])::([true,true,true,true,true,true,true,false,false,false,false,false,false,false],⟨[(0,.ptr 0 0),(2,.nilp),(3,.ptr 3 0),(7,.ptr 0 0),(8,.ptr 0 0),(9,.ptr 0 1),(10,.map 1),(11,.map 4),(12,.ptr 0 0),(13,.ptr 0 0)],[(0,.var 76 (W76 p0_0 1 2)),(1,.map .i Y4 p0_0.2.1),(2,.map .i Y5 p0_0.2.2.1),(3,.var 76 (W76 p0_0 1 2)),(4,.map .i Y4 x2)],5⟩,[7])::([true,true,true,true,false,true,true,true,false,false,false,false,false,false],⟨[(0,.ptr 0 0),(2,.nilp),(3,.ptr 3 0),(7,.ptr 0 0),(8,.ptr 0 0),(9,.ptr 0 1),(10,.map 1),(12,.ptr 0 0),(13,.ptr 0 0),(14,.ptr 0 2)],[(0,.var 76 (W76 p0_0 1 2)),(1,.map .i Y4 p0_0.2.1),(2,.map .i Y5 p0_0.2.2.1),(3,.var 76 (W76 p0_0 1 2))],4⟩,[4,8])::([true,true,true,false,false,true,true,true,true,false,false,false,false,false],⟨[(0,.ptr 0 0),(2,.nilp),(3,.ptr 3 0),(7,.ptr 0 0),(8,.ptr 0 0),(9,.ptr 0 1),(12,.ptr 0 0),(13,.ptr 0 0),(14,.ptr 0 2),(15,.map 2)],[(0,.var 76 (W76 p0_0 1 2)),(1,.map .i Y4 p0_0.2.1),(2,.map .i Y5 p0_0.2.2.1),(3,.var 76 (W76 p0_0 1 2))],4⟩,[3])::([true,true,true,true,true,true,true,true,false,false,false,false,false,false],⟨[(0,.ptr 0 0),(2,.nilp),(3,.ptr 3 0),(7,.ptr 0 0),(8,.ptr 0 0),(9,.ptr 0 1),(10,.map 1),(11,.map 4),(12,.ptr 0 0),(13,.ptr 0 0),(14,.ptr 0 2)],[(0,.var 76 (W76 p0_0 1 2)),(1,.map .i Y4 p0_0.2.1),(2,.map .i Y5 p0_0.2.2.1),(3,.var 76 (W76 p0_0 1 2)),(4,.map .i Y4 x2)],5⟩,[8])::([true,true,true,true,false,true,true,true,true,false,false,false,false,false],⟨[(0,.ptr 0 0),(2,.nilp),(3,.ptr 3 0),(7,.ptr 0 0),(8,.ptr 0 0),(9,.ptr 0 1),(10,.map 1),(12,.ptr 0 0),(13,.ptr 0 0),(14,.ptr 0 2),(15,.map 2)],[(0,.var 76 (W76 p0_0 1 2)),(1,.map .i Y4 p0_0.2.1),(2,.map .i Y5 p0_0.2.2.1),(3,.var 76 (W76 p0_0 1 2))],4⟩,[4])::([true,true,true,true,true,true,true,true,true,false,false,false,false,false],⟨[(0,.ptr 0 0),(2,.nilp),(3,.ptr 3 0),(7,.ptr 0 0),(8,.ptr 0 0),(9,.ptr 0 1),(10,.map 1),(11,.map 4),(12,.ptr 0 0),(13,.ptr 0 0),(14,.ptr 0 2),(15,.map 2)],[(0,.var 76 (W76 p0_0 1 2)),(1,.map .i Y4 p0_0.2.1),(2,.map .i Y5 p0_0.2.2.1),(3,.var 76 (W76 p0_0 1 2)),(4,.map .i Y4 x2)],5⟩,[9])::([true,true,true,true,true,true,true,true,true,true,false,false,false,false],⟨[(0,.ptr 0 0),(2,.nilp),(3,.ptr 3 0),(7,.ptr 0 0),(8,.ptr 0 0),(9,.ptr 0 1),(10,.map 1),(11,.map 4),(12,.ptr 0 0),(13,.ptr 0 0),(14,.ptr 0 2),(15,.map 2),(16,.map 5)],[(0,.var 76 (W76 p0_0 1 2)),(1,.map .i Y4 p0_0.2.1),(2,.map .i Y5 p0_0.2.2.1),(3,.var 76 (W76 p0_0 1 2)),(4,.map .i Y4 x2),(5,.map .i Y5 x4)],6⟩,[10])::([true,true,true,true,true,true,true,true,true,true,true,false,false,false],⟨[(0,.ptr 0 0),(2,.nilp),(3,.ptr 3 0),(7,.ptr 0 0),(8,.ptr 0 0),(9,.ptr 0 1),(10,.map 1),(11,.map 4),(12,.ptr 0 0),(13,.ptr 0 0),(14,.ptr 0 2),(15,.map 2),(16,.map 5),(17,.ptr 3 1)],[(0,.var 76 (W76 p0_0 1 2)),(1,.map .i Y4 p0_0.2.1),(2,.map .i Y5 p0_0.2.2.1),(3,.var 76 (W76 p0_0 1 2)),(4,.map .i Y4 x2),(5,.map .i Y5 x4)],6⟩,[11])::([true,true,true,true,true,true,true,true,true,true,true,true,false,false],⟨[(0,.ptr 0 0),(2,.nilp),(3,.ptr 3 0),(7,.ptr 0 0),(8,.ptr 0 0),(9,.ptr 0 1),(10,.map 1),(11,.map 4),(12,.ptr 0 0),(13,.ptr 0 0),(14,.ptr 0 2),(15,.map 2),(16,.map 5),(17,.ptr 3 1)],[(0,.var 76 (W76 p0_0 1 2)),(1,.map .i Y4 p0_0.2.1),(2,.map .i Y5 p0_0.2.2.1),(3,.var 76 (W76 p0_0 4 2)),(4,.map .i Y4 x2),(5,.map .i Y5 x4)],6⟩,[12])::([true,true,true,true,true,true,true,true,true,true,true,true,true,false],⟨[(0,.ptr 0 0),(2,.nilp),(3,.ptr 3 0),(7,.ptr 0 0),(8,.ptr 0 0),(9,.ptr 0 1),(10,.map 1),(11,.map 4),(12,.ptr 0 0),(13,.ptr 0 0),(14,.ptr 0 2),(15,.map 2),(16,.map 5),(17,.ptr 3 1),(18,.ptr 3 2)],[(0,.var 76 (W76 p0_0 1 2)),(1,.map .i Y4 p0_0.2.1),(2,.map .i Y5 p0_0.2.2.1),(3,.var 76 (W76 p0_0 4 2)),(4,.map .i Y4 x2),(5,.map .i Y5 x4)],6⟩,[13])::([true,true,true,true,true,true,true,true,true,true,true,true,true,true],⟨[(0,.ptr 0 0),(2,.nilp),(3,.ptr 3 0),(7,.ptr 0 0),(8,.ptr 0 0),(9,.ptr 0 1),(10,.map 1),(11,.map 4),(12,.ptr 0 0),(13,.ptr 0 0),(14,.ptr 0 2),(15,.map 2),(16,.map 5),(17,.ptr 3 1),(18,.ptr 3 2)],[(0,.var 76 (W76 p0_0 1 2)),(1,.map .i Y4 p0_0.2.1),(2,.map .i Y5 p0_0.2.2.1),(3,.var 76 (W76 p0_0 4 5)),(4,.map .i Y4 x2),(5,.map .i Y5 x4)],6⟩,[])::[]) ⟨[(0,.ptr 0 0),(2,.nilp),(3,.ptr 3 0)],[(0,.var 76 (W76 p0_0 1 2)),(1,.map .i Y4 p0_0.2.1),(2,.map .i Y5 p0_0.2.2.1),(3,.var 76 (W76 p0_0 1 2))],4⟩ ⟨[(0,.ptr 0 0),(2,.nilp),(3,.ptr 3 0),(7,.ptr 0 0),(8,.ptr 0 0),(9,.ptr 0 1),(10,.map 1),(11,.map 4),(12,.ptr 0 0),(13,.ptr 0 0),(14,.ptr 0 2),(15,.map 2),(16,.map 5),(17,.ptr 3 1),(18,.ptr 3 2)],[(0,.var 76 (W76 p0_0 1 2)),(1,.map .i Y4 p0_0.2.1),(2,.map .i Y5 p0_0.2.2.1),(3,.var 76 (W76 p0_0 4 5)),(4,.map .i Y4 x2),(5,.map .i Y5 x4)],6⟩ (zAA hX [0,1,2,3] 4 J J wS wO) J J J J J ⟨⟨⟨_,_,rfl,rfl,?_⟩,⟨_,_,rfl,rfl,?_⟩,trivial⟩,⟨⟨_,_,rfl,rfl,?_⟩,⟨_,_,rfl,rfl,?_⟩,trivial⟩,⟨⟨_,_,rfl,rfl,?_⟩,⟨_,_,rfl,rfl,?_⟩,trivial⟩,⟨⟨_,_,rfl,rfl,?_⟩,⟨_,_,rfl,rfl,?_⟩,trivial⟩,⟨⟨_,_,rfl,rfl,?_⟩,⟨_,_,rfl,rfl,?_⟩,trivial⟩,⟨⟨_,_,rfl,rfl,?_⟩,⟨_,_,rfl,rfl,?_⟩,trivial⟩,⟨⟨_,_,rfl,rfl,?_⟩,⟨_,_,rfl,rfl,?_⟩,trivial⟩,⟨⟨_,_,rfl,rfl,?_⟩,⟨_,_,rfl,rfl,?_⟩,trivial⟩,⟨⟨_,_,rfl,rfl,?_⟩,⟨_,_,rfl,rfl,?_⟩,trivial⟩,⟨⟨_,_,rfl,rfl,?_⟩,⟨_,_,rfl,rfl,?_⟩,trivial⟩,⟨⟨_,_,rfl,rfl,?_⟩,⟨_,_,rfl,rfl,?_⟩,trivial⟩,⟨⟨_,_,rfl,rfl,?_⟩,⟨_,_,rfl,rfl,?_⟩,trivial⟩,⟨⟨_,_,rfl,rfl,?_⟩,⟨_,_,rfl,rfl,?_⟩,trivial⟩,⟨⟨_,_,rfl,rfl,?_⟩,⟨_,_,rfl,rfl,?_⟩,trivial⟩,⟨⟨_,_,rfl,rfl,?_⟩,trivial⟩,⟨⟨_,_,rfl,rfl,?_⟩,trivial⟩,⟨⟨_,_,rfl,rfl,?_⟩,⟨_,_,rfl,rfl,?_⟩,trivial⟩,⟨⟨_,_,rfl,rfl,?_⟩,⟨_,_,rfl,rfl,?_⟩,trivial⟩,⟨⟨_,_,rfl,rfl,?_⟩,⟨_,_,rfl,rfl,?_⟩,trivial⟩,⟨⟨_,_,rfl,rfl,?_⟩,trivial⟩,⟨⟨_,_,rfl,rfl,?_⟩,trivial⟩,⟨⟨_,_,rfl,rfl,?_⟩,⟨_,_,rfl,rfl,?_⟩,trivial⟩,⟨⟨_,_,rfl,rfl,?_⟩,⟨_,_,rfl,rfl,?_⟩,trivial⟩,⟨⟨_,_,rfl,rfl,?_⟩,trivial⟩,⟨⟨_,_,rfl,rfl,?_⟩,trivial⟩,⟨⟨_,_,rfl,rfl,?_⟩,⟨_,_,rfl,rfl,?_⟩,trivial⟩,⟨⟨_,_,rfl,rfl,?_⟩,trivial⟩,⟨⟨_,_,rfl,rfl,?_⟩,trivial⟩,⟨⟨_,_,rfl,rfl,?_⟩,trivial⟩,⟨⟨_,_,rfl,rfl,?_⟩,trivial⟩,⟨⟨_,_,rfl,rfl,?_⟩,trivial⟩,⟨⟨_,_,rfl,rfl,?_⟩,trivial⟩,⟨⟨_,_,rfl,rfl,?_⟩,trivial⟩,⟨⟨_,_,rfl,rfl,?_⟩,trivial⟩,trivial,trivial⟩ ?_
 ·exact (zAX (zAg J) (zAA hX [0,1,2,3] 4 J J ⟨⟨_,rfl,cv0⟩,⟨_,rfl,cv0⟩,⟨_,rfl,cv0⟩,⟨_,rfl,cv0⟩,trivial⟩ ⟨zAL,zAL,zAL,zAL,trivial⟩))
 ·exact (zAX (zAg J) (zAA hX [0,1,2,3] 4 J J ⟨⟨_,rfl,cv0⟩,⟨_,rfl,cv0⟩,⟨_,rfl,cv0⟩,⟨_,rfl,cv0⟩,trivial⟩ ⟨zAL,zAL,zAL,zAL,trivial⟩))
 ·exact (zAX (zAm J) (zAA hX [0,1,2,3] 4 J J ⟨⟨_,rfl,cv0⟩,⟨_,rfl,cv0⟩,⟨_,rfl,cv0⟩,⟨_,rfl,cv0⟩,⟨_,rfl,cv0⟩,trivial⟩ ⟨zAL,zAL,zAL,zAL,trivial⟩))
 ·exact (zAX (zAg J) (zAA hX [0,1,2,3] 4 J J ⟨⟨_,rfl,cv0⟩,⟨_,rfl,cv0⟩,⟨_,rfl,cv0⟩,⟨_,rfl,cv0⟩,⟨_,rfl,cv0⟩,trivial⟩ ⟨zAL,zAL,zAL,zAL,trivial⟩))
 ·exact (zAX (zAg J) (zAA hX [0,1,2,3] 4 J J ⟨⟨_,rfl,cv0⟩,⟨_,rfl,cv0⟩,⟨_,rfl,cv0⟩,⟨_,rfl,cv0⟩,⟨_,rfl,cv0⟩,trivial⟩ ⟨zAL,zAL,zAL,zAL,trivial⟩))
 ·exact (zAX (zAm J) (zAA hX [0,1,2,3] 4 J J ⟨⟨_,rfl,cv0⟩,⟨_,rfl,cv0⟩,⟨_,rfl,cv0⟩,⟨_,rfl,cv0⟩,⟨_,rfl,cv0⟩,trivial⟩ ⟨zAL,zAL,zAL,zAL,trivial⟩))
 ·exact (zAX (zAc (faX 76 1 J) J J) (zAA hX [0,1,2,3] 4 J J ⟨⟨_,rfl,cv0⟩,⟨_,rfl,cv0⟩,⟨_,rfl,cv0⟩,⟨_,rfl,cv0⟩,⟨_,rfl,cv0⟩,⟨_,rfl,cv0⟩,trivial⟩ ⟨zAL,zAL,zAL,zAL,trivial⟩))
 ·exact (zAX (zAg J) (zAA hX [0,1,2,3] 4 J J ⟨⟨_,rfl,cv0⟩,⟨_,rfl,cv0⟩,⟨_,rfl,cv0⟩,⟨_,rfl,cv0⟩,⟨_,rfl,cv0⟩,⟨_,rfl,cv0⟩,trivial⟩ ⟨zAL,zAL,zAL,zAL,trivial⟩))
 ·exact (zAX (zAm J) (zAA hX [0,1,2,3] 4 J J ⟨⟨_,rfl,cv0⟩,⟨_,rfl,cv0⟩,⟨_,rfl,cv0⟩,⟨_,rfl,cv0⟩,⟨_,rfl,cv0⟩,⟨_,rfl,cv0⟩,trivial⟩ ⟨zAL,zAL,zAL,zAL,trivial⟩))
 ·exact (zAX (zAm J) (zAA hX [0,1,2,3] 4 J J ⟨⟨_,rfl,cv0⟩,⟨_,rfl,cv0⟩,⟨_,rfl,cv0⟩,⟨_,rfl,cv0⟩,⟨_,rfl,cv0⟩,⟨_,rfl,cv0⟩,trivial⟩ ⟨zAL,zAL,zAL,zAL,trivial⟩))
 ·exact (zAX (zAg J) (zAA hX [0,1,2,3] 4 J J ⟨⟨_,rfl,cv0⟩,⟨_,rfl,cv0⟩,⟨_,rfl,cv0⟩,⟨_,rfl,cv0⟩,⟨_,rfl,cv0⟩,⟨_,rfl,cv0⟩,trivial⟩ ⟨zAL,zAL,zAL,zAL,trivial⟩))
 ·exact (zAX (zAc (faX 76 2 J) J J) (zAA hX [0,1,2,3] 4 J J ⟨⟨_,rfl,cv0⟩,⟨_,rfl,cv0⟩,⟨_,rfl,cv0⟩,⟨_,rfl,cv0⟩,⟨_,rfl,cv0⟩,⟨_,rfl,cv0⟩,trivial⟩ ⟨zAL,zAL,zAL,zAL,trivial⟩))
 ·exact (zAX (zAU (tsX 73 J) J J J) (zAA hX [0,1,2,3] 4 J J ⟨⟨_,rfl,cv0⟩,⟨_,rfl,cv0⟩,⟨_,rfl,cv0⟩,⟨_,rfl,cv0⟩,⟨_,rfl,cv0⟩,⟨_,rfl,cv0⟩,⟨_,rfl,cv0⟩,trivial⟩ ⟨zAL,zAL,zAL,zAL,trivial⟩))
 ·exact (zAX (zAg J) (zAA hX [0,1,2,3] 4 J J ⟨⟨_,rfl,cv0⟩,⟨_,rfl,cv0⟩,⟨_,rfl,cv0⟩,⟨_,rfl,cv0⟩,⟨_,rfl,cv0⟩,⟨_,rfl,cv0⟩,⟨_,rfl,cv0⟩,trivial⟩ ⟨zAL,zAL,zAL,zAL,trivial⟩))
 ·exact (zAX (zAc (faX 76 1 J) J J) (zAA hX [0,1,2,3] 4 J J ⟨⟨_,rfl,cv0⟩,⟨_,rfl,cv0⟩,⟨_,rfl,cv0⟩,⟨_,rfl,cv0⟩,⟨_,rfl,cv0⟩,⟨_,rfl,cv0⟩,⟨_,rfl,cv0⟩,trivial⟩ ⟨zAL,zAL,zAL,zAL,trivial⟩))
 ·exact (zAX (zAm J) (zAA hX [0,1,2,3] 4 J J ⟨⟨_,rfl,cv0⟩,⟨_,rfl,cv0⟩,⟨_,rfl,cv0⟩,⟨_,rfl,cv0⟩,⟨_,rfl,cv0⟩,⟨_,rfl,cv0⟩,⟨_,rfl,cv0⟩,trivial⟩ ⟨zAL,zAL,zAL,zAL,trivial⟩))
 ·exact (zAX (zAm J) (zAA hX [0,1,2,3] 4 J J ⟨⟨_,rfl,cv0⟩,⟨_,rfl,cv0⟩,⟨_,rfl,cv0⟩,⟨_,rfl,cv0⟩,⟨_,rfl,cv0⟩,⟨_,rfl,cv0⟩,⟨_,rfl,cv0⟩,trivial⟩ ⟨zAL,zAL,zAL,zAL,trivial⟩))
 ·exact (zAX (zAc (faX 76 2 J) J J) (zAA hX [0,1,2,3] 4 J J ⟨⟨_,rfl,cv0⟩,⟨_,rfl,cv0⟩,⟨_,rfl,cv0⟩,⟨_,rfl,cv0⟩,⟨_,rfl,cv0⟩,⟨_,rfl,cv0⟩,⟨_,rfl,cv0⟩,trivial⟩ ⟨zAL,zAL,zAL,zAL,trivial⟩))
 ·exact (zAX (zAg J) (zAA hX [0,1,2,3] 4 J J ⟨⟨_,rfl,cv0⟩,⟨_,rfl,cv0⟩,⟨_,rfl,cv0⟩,⟨_,rfl,cv0⟩,⟨_,rfl,cv0⟩,⟨_,rfl,cv0⟩,⟨_,rfl,cv0⟩,trivial⟩ ⟨zAL,zAL,zAL,zAL,trivial⟩))
 ·exact (zAX (zAU (tsX 74 J) J J J) (zAA hX [0,1,2,3] 4 J J ⟨⟨_,rfl,cv0⟩,⟨_,rfl,cv0⟩,⟨_,rfl,cv0⟩,⟨_,rfl,cv0⟩,⟨_,rfl,cv0⟩,⟨_,rfl,cv0⟩,⟨_,rfl,cv0⟩,trivial⟩ ⟨zAL,zAL,zAL,zAL,trivial⟩))
 ·exact (zAP (σ:=[1]) (as':=[.map 1]) (f103_runs e3).x ent103 J ⟨cv0,trivial⟩ J J J (zAA hX [0,1,2,3,4] 4 J J wS wO))
 ·exact (zAX (zAg J) (zAA hX [0,1,2,3] 4 J J ⟨⟨_,rfl,cv0⟩,⟨_,rfl,cv0⟩,⟨_,rfl,cv0⟩,⟨_,rfl,cv0⟩,⟨_,rfl,cv0⟩,⟨_,rfl,cv0⟩,⟨_,rfl,cv0⟩,⟨_,rfl,cv0⟩,trivial⟩ ⟨zAL,zAL,zAL,zAL,trivial⟩))
 ·exact (zAX (zAU (tsX 73 J) J J J) (zAA hX [0,1,2,3] 4 J J ⟨⟨_,rfl,cv0⟩,⟨_,rfl,cv0⟩,⟨_,rfl,cv0⟩,⟨_,rfl,cv0⟩,⟨_,rfl,cv0⟩,⟨_,rfl,cv0⟩,⟨_,rfl,cv0⟩,⟨_,rfl,cv0⟩,trivial⟩ ⟨zAL,zAL,zAL,zAL,trivial⟩))
 ·exact (zAX (zAm J) (zAA hX [0,1,2,3] 4 J J ⟨⟨_,rfl,cv0⟩,⟨_,rfl,cv0⟩,⟨_,rfl,cv0⟩,⟨_,rfl,cv0⟩,⟨_,rfl,cv0⟩,⟨_,rfl,cv0⟩,⟨_,rfl,cv0⟩,⟨_,rfl,cv0⟩,trivial⟩ ⟨zAL,zAL,zAL,zAL,trivial⟩))
 ·exact (zAX (zAc (faX 76 1 J) J J) (zAA hX [0,1,2,3] 4 J J ⟨⟨_,rfl,cv0⟩,⟨_,rfl,cv0⟩,⟨_,rfl,cv0⟩,⟨_,rfl,cv0⟩,⟨_,rfl,cv0⟩,⟨_,rfl,cv0⟩,⟨_,rfl,cv0⟩,⟨_,rfl,cv0⟩,trivial⟩ ⟨zAL,zAL,zAL,zAL,trivial⟩))
 ·exact (zAX (zAc (faX 76 2 J) J J) (zAA hX [0,1,2,3] 4 J J ⟨⟨_,rfl,cv0⟩,⟨_,rfl,cv0⟩,⟨_,rfl,cv0⟩,⟨_,rfl,cv0⟩,⟨_,rfl,cv0⟩,⟨_,rfl,cv0⟩,⟨_,rfl,cv0⟩,⟨_,rfl,cv0⟩,trivial⟩ ⟨zAL,zAL,zAL,zAL,trivial⟩))
 ·exact (zAX (zAm J) (zAA hX [0,1,2,3] 4 J J ⟨⟨_,rfl,cv0⟩,⟨_,rfl,cv0⟩,⟨_,rfl,cv0⟩,⟨_,rfl,cv0⟩,⟨_,rfl,cv0⟩,⟨_,rfl,cv0⟩,⟨_,rfl,cv0⟩,⟨_,rfl,cv0⟩,trivial⟩ ⟨zAL,zAL,zAL,zAL,trivial⟩))
 ·exact (zAX (zAU (tsX 74 J) J J J) (zAA hX [0,1,2,3] 4 J J ⟨⟨_,rfl,cv0⟩,⟨_,rfl,cv0⟩,⟨_,rfl,cv0⟩,⟨_,rfl,cv0⟩,⟨_,rfl,cv0⟩,⟨_,rfl,cv0⟩,⟨_,rfl,cv0⟩,⟨_,rfl,cv0⟩,trivial⟩ ⟨zAL,zAL,zAL,zAL,trivial⟩))
 ·exact (zAX (zAg J) (zAA hX [0,1,2,3] 4 J J ⟨⟨_,rfl,cv0⟩,⟨_,rfl,cv0⟩,⟨_,rfl,cv0⟩,⟨_,rfl,cv0⟩,⟨_,rfl,cv0⟩,⟨_,rfl,cv0⟩,⟨_,rfl,cv0⟩,⟨_,rfl,cv0⟩,trivial⟩ ⟨zAL,zAL,zAL,zAL,trivial⟩))
 ·exact (zAX (zAg J) (zAA hX [0,1,2,3,4] 4 J J ⟨⟨_,rfl,cv0⟩,⟨_,rfl,cv0⟩,⟨_,rfl,cv0⟩,⟨_,rfl,cv0⟩,⟨_,rfl,cv0⟩,⟨_,rfl,cv0⟩,⟨_,rfl,cv0⟩,⟨_,rfl,cv0⟩,⟨_,rfl,cv0⟩,trivial⟩ ⟨zAL,zAL,zAL,zAL,zAL,trivial⟩))
 ·exact (zAP (σ:=[1]) (as':=[.map 1]) (f103_runs e3).x ent103 J ⟨cv0,trivial⟩ J J J (zAA hX [0,1,2,3,4] 4 J J wS wO))
 ·exact (zAX (zAm J) (zAA hX [0,1,2,3] 4 J J ⟨⟨_,rfl,cv0⟩,⟨_,rfl,cv0⟩,⟨_,rfl,cv0⟩,⟨_,rfl,cv0⟩,⟨_,rfl,cv0⟩,⟨_,rfl,cv0⟩,⟨_,rfl,cv0⟩,⟨_,rfl,cv0⟩,⟨_,rfl,cv0⟩,trivial⟩ ⟨zAL,zAL,zAL,zAL,trivial⟩))
 ·exact (zAX (zAU (tsX 73 J) J J J) (zAA hX [0,1,2,3] 4 J J ⟨⟨_,rfl,cv0⟩,⟨_,rfl,cv0⟩,⟨_,rfl,cv0⟩,⟨_,rfl,cv0⟩,⟨_,rfl,cv0⟩,⟨_,rfl,cv0⟩,⟨_,rfl,cv0⟩,⟨_,rfl,cv0⟩,⟨_,rfl,cv0⟩,trivial⟩ ⟨zAL,zAL,zAL,zAL,trivial⟩))
 ·exact (zAX (zAc (faX 76 2 J) J J) (zAA hX [0,1,2,3] 4 J J ⟨⟨_,rfl,cv0⟩,⟨_,rfl,cv0⟩,⟨_,rfl,cv0⟩,⟨_,rfl,cv0⟩,⟨_,rfl,cv0⟩,⟨_,rfl,cv0⟩,⟨_,rfl,cv0⟩,⟨_,rfl,cv0⟩,⟨_,rfl,cv0⟩,trivial⟩ ⟨zAL,zAL,zAL,zAL,trivial⟩))
 ·exact (zAX (zAc (faX 76 1 J) J J) (zAA hX [0,1,2,3] 4 J J ⟨⟨_,rfl,cv0⟩,⟨_,rfl,cv0⟩,⟨_,rfl,cv0⟩,⟨_,rfl,cv0⟩,⟨_,rfl,cv0⟩,⟨_,rfl,cv0⟩,⟨_,rfl,cv0⟩,⟨_,rfl,cv0⟩,⟨_,rfl,cv0⟩,trivial⟩ ⟨zAL,zAL,zAL,zAL,trivial⟩))
 ·exact (zAX (zAU (tsX 74 J) J J J) (zAA hX [0,1,2,3] 4 J J ⟨⟨_,rfl,cv0⟩,⟨_,rfl,cv0⟩,⟨_,rfl,cv0⟩,⟨_,rfl,cv0⟩,⟨_,rfl,cv0⟩,⟨_,rfl,cv0⟩,⟨_,rfl,cv0⟩,⟨_,rfl,cv0⟩,⟨_,rfl,cv0⟩,trivial⟩ ⟨zAL,zAL,zAL,zAL,trivial⟩))
 ·exact (zAX (zAm J) (zAA hX [0,1,2,3] 4 J J ⟨⟨_,rfl,cv0⟩,⟨_,rfl,cv0⟩,⟨_,rfl,cv0⟩,⟨_,rfl,cv0⟩,⟨_,rfl,cv0⟩,⟨_,rfl,cv0⟩,⟨_,rfl,cv0⟩,⟨_,rfl,cv0⟩,⟨_,rfl,cv0⟩,trivial⟩ ⟨zAL,zAL,zAL,zAL,trivial⟩))
 ·exact (zAX (zAm J) (zAA hX [0,1,2,3,4] 4 J J ⟨⟨_,rfl,cv0⟩,⟨_,rfl,cv0⟩,⟨_,rfl,cv0⟩,⟨_,rfl,cv0⟩,⟨_,rfl,cv0⟩,⟨_,rfl,cv0⟩,⟨_,rfl,cv0⟩,⟨_,rfl,cv0⟩,⟨_,rfl,cv0⟩,⟨_,rfl,cv0⟩,trivial⟩ ⟨zAL,zAL,zAL,zAL,zAL,trivial⟩))
 ·exact (zAP (σ:=[1]) (as':=[.map 1]) (f103_runs e3).x ent103 J ⟨cv0,trivial⟩ J J J (zAA hX [0,1,2,3,4] 4 J J wS wO))
 ·exact (zAX (zAc (faX 76 2 J) J J) (zAA hX [0,1,2,3] 4 J J ⟨⟨_,rfl,cv0⟩,⟨_,rfl,cv0⟩,⟨_,rfl,cv0⟩,⟨_,rfl,cv0⟩,⟨_,rfl,cv0⟩,⟨_,rfl,cv0⟩,⟨_,rfl,cv0⟩,⟨_,rfl,cv0⟩,⟨_,rfl,cv0⟩,⟨_,rfl,cv0⟩,trivial⟩ ⟨zAL,zAL,zAL,zAL,trivial⟩))
 ·exact (zAX (zAU (tsX 73 J) J J J) (zAA hX [0,1,2,3] 4 J J ⟨⟨_,rfl,cv0⟩,⟨_,rfl,cv0⟩,⟨_,rfl,cv0⟩,⟨_,rfl,cv0⟩,⟨_,rfl,cv0⟩,⟨_,rfl,cv0⟩,⟨_,rfl,cv0⟩,⟨_,rfl,cv0⟩,⟨_,rfl,cv0⟩,⟨_,rfl,cv0⟩,trivial⟩ ⟨zAL,zAL,zAL,zAL,trivial⟩))
 ·exact (zAX (zAU (tsX 74 J) J J J) (zAA hX [0,1,2,3] 4 J J ⟨⟨_,rfl,cv0⟩,⟨_,rfl,cv0⟩,⟨_,rfl,cv0⟩,⟨_,rfl,cv0⟩,⟨_,rfl,cv0⟩,⟨_,rfl,cv0⟩,⟨_,rfl,cv0⟩,⟨_,rfl,cv0⟩,⟨_,rfl,cv0⟩,⟨_,rfl,cv0⟩,trivial⟩ ⟨zAL,zAL,zAL,zAL,trivial⟩))
 ·exact (zAX (zAc (faX 76 1 J) J J) (zAA hX [0,1,2,3] 4 J J ⟨⟨_,rfl,cv0⟩,⟨_,rfl,cv0⟩,⟨_,rfl,cv0⟩,⟨_,rfl,cv0⟩,⟨_,rfl,cv0⟩,⟨_,rfl,cv0⟩,⟨_,rfl,cv0⟩,⟨_,rfl,cv0⟩,⟨_,rfl,cv0⟩,⟨_,rfl,cv0⟩,trivial⟩ ⟨zAL,zAL,zAL,zAL,trivial⟩))
 ·exact (zAX (zAc (faX 76 2 J) J J) (zAA hX [0,1,2,3,4] 4 J J ⟨⟨_,rfl,cv0⟩,⟨_,rfl,cv0⟩,⟨_,rfl,cv0⟩,⟨_,rfl,cv0⟩,⟨_,rfl,cv0⟩,⟨_,rfl,cv0⟩,⟨_,rfl,cv0⟩,⟨_,rfl,cv0⟩,⟨_,rfl,cv0⟩,⟨_,rfl,cv0⟩,⟨_,rfl,cv0⟩,trivial⟩ ⟨zAL,zAL,zAL,zAL,zAL,trivial⟩))
 ·exact (zAP (σ:=[1]) (as':=[.map 1]) (f103_runs e3).x ent103 J ⟨cv0,trivial⟩ J J J (zAA hX [0,1,2,3,4] 4 J J wS wO))
 ·exact (zAX (zAU (tsX 74 J) J J J) (zAA hX [0,1,2,3] 4 J J ⟨⟨_,rfl,cv0⟩,⟨_,rfl,cv0⟩,⟨_,rfl,cv0⟩,⟨_,rfl,cv0⟩,⟨_,rfl,cv0⟩,⟨_,rfl,cv0⟩,⟨_,rfl,cv0⟩,⟨_,rfl,cv0⟩,⟨_,rfl,cv0⟩,⟨_,rfl,cv0⟩,⟨_,rfl,cv0⟩,trivial⟩ ⟨zAL,zAL,zAL,zAL,trivial⟩))
 ·exact (zAX (zAU (tsX 73 J) J J J) (zAA hX [0,1,2,3] 4 J J ⟨⟨_,rfl,cv0⟩,⟨_,rfl,cv0⟩,⟨_,rfl,cv0⟩,⟨_,rfl,cv0⟩,⟨_,rfl,cv0⟩,⟨_,rfl,cv0⟩,⟨_,rfl,cv0⟩,⟨_,rfl,cv0⟩,⟨_,rfl,cv0⟩,⟨_,rfl,cv0⟩,⟨_,rfl,cv0⟩,trivial⟩ ⟨zAL,zAL,zAL,zAL,trivial⟩))
 ·exact (zAX (zAU (tsX 74 J) J J J) (zAA hX [0,1,2,3,4] 4 J J ⟨⟨_,rfl,cv0⟩,⟨_,rfl,cv0⟩,⟨_,rfl,cv0⟩,⟨_,rfl,cv0⟩,⟨_,rfl,cv0⟩,⟨_,rfl,cv0⟩,⟨_,rfl,cv0⟩,⟨_,rfl,cv0⟩,⟨_,rfl,cv0⟩,⟨_,rfl,cv0⟩,⟨_,rfl,cv0⟩,⟨_,rfl,cv0⟩,trivial⟩ ⟨zAL,zAL,zAL,zAL,zAL,trivial⟩))
 ·exact (zAP (σ:=[1]) (as':=[.map 1]) (f103_runs e3).x ent103 J ⟨cv0,trivial⟩ J J J (zAA hX [0,1,2,3,4] 4 J J wS wO))
 ·exact (zAP (σ:=[2]) (as':=[.map 2]) (f104_runs e5).x ent104 J ⟨cv0,trivial⟩ J J J (zAA hX [0,1,2,3,4,5] 4 J J wS wO))
 ·exact (zAX (zAc (faX 76 1 J) J J) (zAA hX [0,1,2,3,4,5] 4 J J ⟨⟨_,rfl,cv0⟩,⟨_,rfl,cv0⟩,⟨_,rfl,cv0⟩,⟨_,rfl,cv0⟩,⟨_,rfl,cv0⟩,⟨_,rfl,cv0⟩,⟨_,rfl,cv0⟩,⟨_,rfl,cv0⟩,⟨_,rfl,cv0⟩,⟨_,rfl,cv0⟩,⟨_,rfl,cv0⟩,⟨_,rfl,cv0⟩,⟨_,rfl,cv0⟩,⟨_,rfl,cv0⟩,trivial⟩ ⟨zAL,zAL,zAL,zAL,zAL,zAL,trivial⟩))
 ·exact (aop_store (szX 73 J) J J J J J J J (zAA hX [0,1,2,3,4,5] 4 J J wS wO))
 ·exact (zAX (zAc (faX 76 2 J) J J) (zAA hX [0,1,2,3,4,5] 4 J J ⟨⟨_,rfl,cv0⟩,⟨_,rfl,cv0⟩,⟨_,rfl,cv0⟩,⟨_,rfl,cv0⟩,⟨_,rfl,cv0⟩,⟨_,rfl,cv0⟩,⟨_,rfl,cv0⟩,⟨_,rfl,cv0⟩,⟨_,rfl,cv0⟩,⟨_,rfl,cv0⟩,⟨_,rfl,cv0⟩,⟨_,rfl,cv0⟩,⟨_,rfl,cv0⟩,⟨_,rfl,cv0⟩,⟨_,rfl,cv0⟩,trivial⟩ ⟨zAL,zAL,zAL,zAL,zAL,zAL,trivial⟩))
 ·exact (aop_store (szX 74 J) J J J J J J J (zAA hX [0,1,2,3,4,5] 4 J J wS wO))
 refine an<|sq<|rg<|V va<|?_
 obtain rfl:=Option.some.inj hr
 exact nl<|an<|cr<|zAe (l':=[(2,.ptr 1 0)]) (Hs:=[(0,.tr E76 (some p0_0)),(1,.tr E76 (some (p0_0.1,x2,x4,p0_0.2.2.2.1,p0_0.2.2.2.2)))]) (n:=2) (Wk.trans (pk (i:=0) (e:=F76) (js:=[1,2]) p0_0) (Wk.trans (pk (i:=3) (e:=F76) (js:=[4,5]) (p0_0.1,x2,x4,p0_0.2.2.2.1,p0_0.2.2.2.2)) (zAA hX [0,3] 4 J J wS wO))) J J J ⟨rfl,trivial⟩
theorem ent99 : Enters Tryz.prog 99:=enters_of Tryz.func99 (by kernel_rfl) rfl
theorem ent58 : Enters Tryz.prog 58:=enters_of Tryz.func58 (by kernel_rfl) rfl
theorem ent51 : Enters Tryz.prog 51:=enters_of Tryz.func51 (by kernel_rfl) rfl
theorem ent59 : Enters Tryz.prog 59:=enters_of Tryz.func59 (by kernel_rfl) rfl
theorem ent52 : Enters Tryz.prog 52:=enters_of Tryz.func52 (by kernel_rfl) rfl
theorem fv54_2 : FieldV Tryz.prog 54 2 2 false 1:=fieldV_of' (fs:=Tryz.prog.fieldsOf 54) (by kernel_rfl) (by kernel_rfl) (tsX 9 J) (by decide)
theorem ent23 : Enters Tryz.prog 23:=enters_of Tryz.func23 (by kernel_rfl) rfl
theorem zw3 : ZeroW Tryz.prog 3 .i:=zeroW_of (z:=.i 0) (fun w=>by kernel_rfl) J (fun _=>rfl)
theorem bt60 : zC4 Tryz.prog 60 (.agg #[.int .i64 0,.int .i64 0]) (fun i=>some (i * 1,1)):=buildT_array (n:=2) (zeroX 60 J) (by kernel_rfl) (szX 3 J)
theorem bs57 : BuildS Tryz.prog 57 60 Y6:=zCh (z:=.agg #[.int .i64 0,.int .i64 0]) (by kernel_rfl) (by kernel_rfl) rfl
theorem app57 : AppT Tryz.prog 57 60 (Ty.cells Y6) 16:=appT_of (z:=.agg #[.int .i64 0,.int .i64 0]) (by kernel_rfl) (by kernel_rfl) J rfl
theorem ent61 : Enters Tryz.prog 61:=enters_of Tryz.func61 (by kernel_rfl) rfl
theorem ent22 : Enters Tryz.prog 22:=enters_of Tryz.func22 (by kernel_rfl) rfl
theorem ent8 : Enters Tryz.prog 8:=enters_of Tryz.func8 (by kernel_rfl) rfl
theorem ent24 : Enters Tryz.prog 24:=enters_of Tryz.func24 (by kernel_rfl) rfl
theorem ent18 : Enters Tryz.prog 18:=enters_of Tryz.func18 (by kernel_rfl) rfl
theorem ent80 : Enters Tryz.prog 80:=enters_of Tryz.func80 (by kernel_rfl) rfl
theorem ent29 : Enters Tryz.prog 29:=enters_of Tryz.func29 (by kernel_rfl) rfl
theorem bt80 : zC4 Tryz.prog 80 (.agg #[.slice none 0 0,.slice none 0 0,.slice none 0 0,.int .i64 0,.int .i64 0]) (fun i=>[(0,1),(1,1),(2,1),(3,1),(4,1)][i]?):=zBn (zeroX 80 J) (fs:=Tryz.prog.fieldsOf 80) (by kernel_rfl) (fun w=>by kernel_rfl)
theorem zCU {p0:List (Int×Bool)}{r:List Int}(hr:f52 p0=some r) : Runs Tryz.prog 52 [.dm .i .bool p0] [] (fun q Hq=>q=[.osl 0]∧Hq=[.sl 3 .i r]):=by
 refine zAW Tryz.func52 Tryz.ntmps52 J (rs:=[.tmp 2]) J J fun w0 X hX=>?_
 obtain ⟨x2,e3,hr⟩:=zA hr
 refine sq<|rg<|V va<|nl<|an<|sq<|rg<|V vm<|?_
 refine zAK (zAP (σ:=[]) (as':=[.dm .i .bool p0]) (f99_runs e3).x ent99 J ⟨cv0,trivial⟩ J J J ?_)
 obtain ⟨x4,e5,hr⟩:=zA hr
 refine zAK (zAP (σ:=[0]) (as':=[.fn 119 [] [.ptr 0 0]]) (f53_119_runs e5).x ent53 J ⟨cv0,trivial⟩ J J J ?_)
 refine V va<|?_
 obtain rfl:=Option.some.inj hr
 exact nl<|an<|cr<|zAe (l':=[(2,.osl 0)]) (Hs:=[(0,.sl 3 .i x4)]) (n:=1) (zAA hX [1] 4 J J wS wO) J J J ⟨rfl,trivial⟩
theorem f61_runs {p0:List Int}{r:Int}(hr:f61 p0=some r) : zBb Tryz.prog 61 [.sl .i p0] [.i r]:=by
 refine zAW Tryz.func61 Tryz.ntmps61 J (rs:=[.tmp 2]) J J fun w0 X hX=>?_
 obtain ⟨o4,e5,hr⟩:=zA hr
 refine sq<|rg<|V va<|nl<|an<|sq<|rg<|V va<|nl<|an<|sq<|sq<|rg<|V vm<|V vnl<|V vm<|nl<|an<|bl<|?_
 refine zAb (t:=0) J (fun hl=>?_)
 refine zAI (List.length p0 : Int) (f61_b0 p0) (fun p=>match p with | (i1,())=>(⟨[(2,.i 0),(3,.i 0),(6,.sl .i p0),(7,.i (List.length p0 : Int)),(8,.i i1)],[],0⟩ : AS)) (fun o e st=>match o with | .inl ()=>e=.exit 0∧Wk X st ⟨[(2,.i 0),(3,.i 0)],[],0⟩ | .inr s3=>e=.ret∧Wk X st ⟨[(2,.i s3)],[],0⟩) (zAf hl) e5 (by exact zAA hX [] 4 J J wS trivial) ?_ ?_
 ·intro e st hx
  rcases o4 with _ | s3
  ·obtain ⟨rfl,hw⟩:=hx
   refine bh<|an<|(zAY hw)<|sq<|rg<|V vm<|V va<|?_
   obtain rfl:=Option.some.inj hr
   exact nl<|an<|cr<|zAk (l':=[(2,.i 0)]) (zAA hX [] 4 J J wS trivial) J ⟨rfl,trivial⟩
  obtain ⟨rfl,hw⟩:=hx
  obtain rfl:=Option.some.inj hr
  exact zAE (zAC (zAk (l':=[(2,.i s3)]) (Wk.trans hw (zAA hX [] 4 J J wS trivial)) J ⟨rfl,trivial⟩))
 rintro i1 _ o ho
 refine sq<|rg<|V vls<|nl<|an<|sq<|?_
 refine zAO (b:=decide (i1 < (List.length p0 : Int))) J (fun hc6=>?_) (fun hc6=>?_)
 ·obtain ⟨q,hr,rfl⟩:=zA7 hc6 ho
  obtain ⟨x7,e8,hr⟩:=zA hr
  refine sk<|an<|sq<|bl<|sq<|rg<|V (zAQ (t:=.i) (e:=x7) (undX 33 J) (szX 3 J) J J e8)<|V vlr<|V va<|nl<|an<|sq<|rg<|V vm<|V vm<|V vne<|nl<|an<|?_
  refine cnd (fun hc9 hr=>?_) (fun hc9 hr=>?_)
  ·refine sq<|rg<|V vm<|V va<|?_
   obtain rfl:=Option.some.inj hr
   exact nl<|an<|cr<|zAE (zAC (⟨rfl,(zAA hX [] 4 J J wS trivial)⟩))
  refine sk<|bn<|an<|rg<|V vad<|V vm<|?_
  obtain rfl:=Option.some.inj hr
  exact zAJ ((zAA hX [] 4 J J wS trivial))
 obtain rfl:=zA8 hc6 ho
 exact zAH (zAF (⟨rfl,(zAA hX [] 4 J J wS trivial)⟩))
theorem f18_runs {p0_0:ZW}{p1:Int}{p2:Int}{r:(List (Int×Int))×(List (Int×Int))×Int×(ZW)}(hr:f18 p0_0 p1 p2=some r) : Runs Tryz.prog 18 [.ptr 0 0,.i p1,.i p2] [.tr E76 (some p0_0)] (fun q Hq=>q=[.sl Y6 r.1,.sl Y6 r.2.1,.i r.2.2.1]∧Hq=[.tr E76 (some r.2.2.2)]):=by
 refine zAW Tryz.func18 Tryz.ntmps18 J (rs:=[.tmp 6,.tmp 7,.tmp 8]) J J fun w0 X hX=>?_
 obtain ⟨x2,e3,hr⟩:=zA hr
 refine sq<|rg<|V va<|V va<|V va<|nl<|an<|sq<|sq<|rg<|V vm<|V vm<|V vm<|?_
 refine zAG (zAd (i:=0) (W76 p0_0 1 2) [.map .i Y4 p0_0.2.1,.map .i Y5 p0_0.2.2.1] J J J J)<|V (zAj (as':=[.ptr 0 0,.i p1,.i p2]) (f58_runs e3).x ent58 J ⟨cv0,cv0,cv0,trivial⟩ J J)<|V va<|nl<|an<|sq<|rg<|V vm<|V vne<|nl<|an<|?_
 refine cnd (fun hc4 hr=>?_) (fun hc4 hr=>?_)
 ·refine sq<|rg<|V vm<|V va<|V va<|V va<|?_
  obtain rfl:=Option.some.inj hr
  exact nl<|an<|cr<|zAC (zAe (l':=[(6,.sl Y6 ([] : List (Int×Int))),(7,.sl Y6 ([] : List (Int×Int))),(8,.i x2)]) (Hs:=[(0,.tr E76 (some p0_0))]) (n:=1) (Wk.trans (pk (i:=0) (e:=F76) (js:=[1,2]) p0_0) (zAA hX [0] 4 J J ⟨⟨_,rfl,cv2⟩,⟨_,rfl,cv2⟩,⟨_,rfl,cv0⟩,trivial⟩ wO)) J J J ⟨rfl,rfl,rfl,trivial⟩)
 obtain ⟨x5,e6,hr⟩:=zA hr
 refine sk<|an<|sq<|rg<|V vm<|V vm<|?_
 refine zAK (zAp (as':=[.ptr 0 0,.i p1,.i 1]) (f51_runs e6).x ent51 J ⟨cv0,cv0,cv0,trivial⟩ J J J ?_)
 obtain ⟨x7,e8,hr⟩:=zA hr
 refine O oa<|O os<|nl<|an<|sq<|rg<|V vm<|?_
 refine zAG (pk (i:=0) (e:=F76) (js:=[1,2]) p0_0)<|?_
 refine zAK (zAP (σ:=[0]) (as':=[.ptr 0 0]) (f59_runs e8).x ent59 J ⟨cv0,trivial⟩ J J J ?_)
 refine V va<|nl<|an<|sq<|rg<|?_
 refine zAK (zB6 .i .i J ?_)
 obtain ⟨x9,e10,hr⟩:=zA hr
 refine V va<|nl<|an<|sq<|rg<|V va<|V va<|nl<|an<|sq<|sq<|rg<|V vfp<|V vlp<|?_
 refine zAK (zAp (as':=[.map 3]) (zCU e10).x ent52 J ⟨cv0,trivial⟩ J J J ?_)
 obtain ⟨o20,e21,hr⟩:=zA hr
 refine V vnL<|V vm<|nl<|an<|bl<|?_
 refine zA5 (i:=9) J J (fun hl=>?_)
 refine zAI (List.length x9 : Int) (f18_b0 p2 x9) (fun p=>match p with | (i11,s13,s14,s15)=>(⟨[(0,.ptr 0 0),(2,.i p2),(6,.nils),(7,.nils),(8,.i 0),(10,.ptr 1 0),(11,.ptr 2 0),(12,.map 3),(13,.osl 4),(14,.nils),(40,.osl 5),(41,.i (List.length x9 : Int)),(42,.i i11)],[(0,.tr E76 (some p0_0)),(1,.var 91 [.map 6,.map 7,.map 8]),(2,.tr E76 (some s13)),(3,.map .i .i s14),(4,.sl 60 Y6 s15),(5,.sl 3 .i x9),(6,.map .i .bool x5.1),(7,.map .i .bool x5.2.1),(8,.map .i .bool x5.2.2)],9⟩ : AS)) (fun o e st=>match o with | .inl (s13,s14,s15)=>e=.exit 0∧Wk X st ⟨[(0,.ptr 0 0),(6,.nils),(7,.nils),(8,.i 0),(10,.ptr 1 0),(11,.ptr 2 0),(12,.map 3),(13,.osl 4),(14,.nils)],[(0,.tr E76 (some p0_0)),(1,.var 91 [.map 5,.map 6,.map 7]),(2,.tr E76 (some s13)),(3,.map .i .i s14),(4,.sl 60 Y6 s15),(5,.map .i .bool x5.1),(6,.map .i .bool x5.2.1),(7,.map .i .bool x5.2.2)],8⟩ | .inr ()=>e=.ret∧Wk X st ⟨[(6,.nils),(7,.nils),(8,.i 4)],[(0,.tr E76 (some p0_0))],1⟩) (zAf hl) e21 (Wk.trans (zAt (t:=13) 60 Y6 J) (by exact zAA hX [0,6,7,8,10,9,3,4,5] 4 J J wS wO)) ?_ ?_
 ·intro e st hx
  rcases o20 with ⟨s13,s14,s15⟩ | _
  ·obtain ⟨rfl,hw⟩:=hx
   obtain ⟨x22,e23,hr⟩:=zA hr
   refine bh<|an<|(zAY hw)<|sq<|sq<|rg<|V vfp<|V vlp<|?_
   refine zAK (zAp (as':=[.map 6]) (zCU e23).x ent52 J ⟨cv0,trivial⟩ J J J ?_)
   obtain ⟨o31,e32,hr⟩:=zA hr
   refine V vnL<|V vm<|nl<|an<|bl<|?_
   refine zA5 (i:=8) J J (fun hl=>?_)
   refine zAI (List.length x22 : Int) (f18_b1 s14 x22) (fun p=>match p with | (i24,s26,s27)=>(⟨[(0,.ptr 0 0),(6,.nils),(7,.nils),(8,.i 0),(11,.ptr 1 0),(12,.map 2),(13,.osl 3),(14,.osl 4),(78,.osl 5),(79,.i (List.length x22 : Int)),(80,.i i24)],[(0,.tr E76 (some p0_0)),(1,.tr E76 (some s26)),(2,.map .i .i s14),(3,.sl 60 Y6 s15),(4,.sl 60 Y6 s27),(5,.sl 3 .i x22)],6⟩ : AS)) (fun o e st=>match o with | .inr _=>False | .inl (s26,s27)=>e=.exit 2∧Wk X st ⟨[(0,.ptr 0 0),(6,.nils),(7,.nils),(8,.i 0),(11,.ptr 1 0),(13,.osl 2),(14,.osl 3)],[(0,.tr E76 (some p0_0)),(1,.tr E76 (some s26)),(2,.sl 60 Y6 s15),(3,.sl 60 Y6 s27)],4⟩) (zAf hl) e32 (Wk.trans (zAt (t:=14) 60 Y6 J) (by exact zAA hX [0,2,3,4,9,8] 4 J J wS wO)) ?_ ?_
   ·intro e st hx
    rcases o31 with ⟨s26,s27⟩ | _
    ·obtain ⟨rfl,hw⟩:=hx
     obtain ⟨o35,e36,hr⟩:=zA hr
     refine bh<|an<|(zAY hw)<|sq<|sq<|rg<|V vm<|V vnL<|V vm<|nl<|an<|bl<|?_
     refine zA5 (i:=3) J J (fun hl=>?_)
     refine zAI (List.length s27 : Int) (f18_b2 s26 s27) (fun p=>match p with | (i33,())=>(⟨[(0,.ptr 0 0),(6,.nils),(7,.nils),(8,.i 0),(11,.ptr 1 0),(13,.osl 2),(14,.osl 3),(121,.osl 3),(122,.i (List.length s27 : Int)),(123,.i i33)],[(0,.tr E76 (some p0_0)),(1,.tr E76 (some s26)),(2,.sl 60 Y6 s15),(3,.sl 60 Y6 s27)],4⟩ : AS)) (fun o e st=>match o with | .inl ()=>e=.exit 6∧Wk X st ⟨[(0,.ptr 0 0),(6,.nils),(7,.nils),(8,.i 0),(11,.ptr 1 0),(13,.osl 2),(14,.osl 3)],[(0,.tr E76 (some p0_0)),(1,.tr E76 (some s26)),(2,.sl 60 Y6 s15),(3,.sl 60 Y6 s27)],4⟩ | .inr ()=>e=.ret∧Wk X st ⟨[(6,.nils),(7,.nils),(8,.i 9)],[(0,.tr E76 (some p0_0))],1⟩) (zAf hl) e36 (by exact zAA hX [0,1,2,3] 4 J J wS wO) ?_ ?_
     ·intro e st hx
      rcases o35 with _ | _
      ·obtain ⟨rfl,hw⟩:=hx
       refine bh<|an<|(zAY hw)<|sq<|sq<|rg<|V vm<|V vnp<|V vfp<|?_
       refine zAG (zAd (i:=1) (W76 s26 4 5) [.map .i Y4 s26.2.1,.map .i Y5 s26.2.2.1] J J J J)<|V vlp<|?_
       refine V (zCa (tk:=.i) (tv:=Y5) J J (undX 74 J) J J)<|V vgt<|nl<|an<|?_
       refine cnd (fun hc37 hr=>?_) (fun hc37 hr=>?_)
       ·refine sq<|rg<|V va<|V va<|V va<|?_
        obtain rfl:=Option.some.inj hr
        exact nl<|an<|cr<|zAC (zAe (l':=[(6,.sl Y6 ([] : List (Int×Int))),(7,.sl Y6 ([] : List (Int×Int))),(8,.i 4)]) (Hs:=[(0,.tr E76 (some p0_0))]) (n:=1) (zAA hX [0] 4 J J ⟨⟨_,rfl,cv2⟩,⟨_,rfl,cv2⟩,⟨_,rfl,cv0⟩,trivial⟩ wO) J J J ⟨rfl,rfl,rfl,trivial⟩)
       refine sk<|an<|sq<|rg<|V vm<|V vm<|V vnp<|V vlP<|V vnp<|?_
       refine zAG (zAd (i:=0) (W76 p0_0 6 7) [.map .i Y4 p0_0.2.1,.map .i Y5 p0_0.2.2.1] J J J J)<|O os<|nl<|an<|sq<|rg<|V vm<|V vm<|V va<|V va<|V va<|?_
       obtain rfl:=Option.some.inj hr
       exact nl<|an<|cr<|zAe (l':=[(6,.sl Y6 s15),(7,.sl Y6 s27),(8,.i 0)]) (Hs:=[(0,.tr E76 (some s26))]) (n:=1) (Wk.trans (pk (i:=0) (e:=F76) (js:=[4,5]) s26) (zAA hX [0] 4 J J wS wO)) J J J ⟨rfl,rfl,rfl,trivial⟩
      obtain ⟨rfl,hw⟩:=hx
      obtain rfl:=Option.some.inj hr
      exact zAE (zAC (zAe (l':=[(6,.sl Y6 ([] : List (Int×Int))),(7,.sl Y6 ([] : List (Int×Int))),(8,.i 9)]) (Hs:=[(0,.tr E76 (some p0_0))]) (n:=1) (Wk.trans hw (zAA hX [0] 4 J J ⟨⟨_,rfl,cv2⟩,⟨_,rfl,cv2⟩,⟨_,rfl,cv0⟩,trivial⟩ wO)) J J J ⟨rfl,rfl,rfl,trivial⟩))
     rintro i33 _ o ho
     refine sq<|rg<|V vls<|nl<|an<|sq<|?_
     refine zAO (b:=decide (i33 < (List.length s27 : Int))) J (fun hc38=>?_) (fun hc38=>?_)
     ·obtain ⟨q,hr,rfl⟩:=zA7 hc38 ho
      obtain ⟨x39,e40,hr⟩:=zA hr
      obtain ⟨x41,e42,hr⟩:=zA hr
      refine sk<|an<|sq<|bl<|sq<|rg<|V (zAn (t:=Y6) (undX 57 J) (szX 60 J) J J J e40)<|?_
      refine V (zB5 (tsX 60 J) J J J (zCM e40) J J)<|O oa<|O os<|nl<|an<|sq<|?_
      refine zAY (zAd (i:=1) (W76 s26 5 6) [.map .i Y4 s26.2.1,.map .i Y5 s26.2.2.1] J J J J)<|?_
      refine zBE mixed [0,6,7,8,11,13,14,121,122,123,24] [(true,.ptr 1 0),(true,.ptr 1 0),(true,.ptr 1 0),(true,.ptr 1 2),(true,.map 6),(true,.ptr 4 1),(true,.i x39.2),(true,.agg [.i ((((mget s26.2.2.1 x39.2).getD (0,([] : Str),[]))).1),.str (((((mget s26.2.2.1 x39.2).getD (0,([] : Str),[]))).2).1),.sl .i (((((mget s26.2.2.1 x39.2).getD (0,([] : Str),[]))).2).2)]),(true,.bool x41)] [[],[],[1],[2],[3],[],[5],[4,6],[0,7]] [8] J J J J J ⟨oB wm,oB wm,oB wnp,oB wfp,oB wlp,zAr J (fun hg=>zAD trivial) (fun hg=>zBz (undX 60 J) (szX 3 J) J J J J),oB wlp,zAr J (fun hg=>zAD ⟨rfl,rfl,trivial⟩) (fun hg=>zBG (kx:=x39.2) (r:=.agg [.i ((((mget s26.2.2.1 x39.2).getD (0,([] : Str),[]))).1),.str (((((mget s26.2.2.1 x39.2).getD (0,([] : Str),[]))).2).1),.sl .i (((((mget s26.2.2.1 x39.2).getD (0,([] : Str),[]))).2).2)]) (undX 74 J) kt3 zw42 J J J J J),zAr J (fun hg=>zAD ⟨rfl,rfl,trivial⟩) (fun hg=>zAj (as':=[.ptr 1 0,.agg [.i ((((mget s26.2.2.1 x39.2).getD (0,([] : Str),[]))).1),.str (((((mget s26.2.2.1 x39.2).getD (0,([] : Str),[]))).2).1),.sl .i (((((mget s26.2.2.1 x39.2).getD (0,([] : Str),[]))).2).2)]]) (f63_runs e42).x ent63 J ⟨cv0,cv0,trivial⟩ J J),trivial⟩ (zAD ⟨rfl,trivial⟩) ?_
      refine an<|?_
      refine cnd (fun hc43 hr=>?_) (fun hc43 hr=>?_)
      ·refine sq<|rg<|V va<|V va<|V va<|?_
       obtain rfl:=Option.some.inj hr
       exact nl<|an<|cr<|zAE (zAC (⟨rfl,(zAA hX [0] 4 J J wS wO)⟩))
      refine sk<|bn<|an<|rg<|V vad<|V vm<|?_
      obtain rfl:=Option.some.inj hr
      exact zAJ ((Wk.trans (pk (i:=1) (e:=F76) (js:=[5,6]) s26) (zAA hX [0,1,2,3] 4 J J wS wO)))
     obtain rfl:=zA8 hc38 ho
     exact zAH (zAF (⟨rfl,(zAA hX [0,1,2,3] 4 J J wS wO)⟩))
    exact hx.elim
   rintro i24 ⟨s26,s27⟩ o ho
   refine sq<|rg<|V vls<|nl<|an<|sq<|?_
   refine zAO (b:=decide (i24 < (List.length x22 : Int))) J (fun hc44=>?_) (fun hc44=>?_)
   ·obtain ⟨q,hr,rfl⟩:=zA7 hc44 ho
    obtain ⟨x45,e46,hr⟩:=zA hr
    obtain ⟨x47,e48,hr⟩:=zA hr
    refine sk<|an<|sq<|bl<|sq<|rg<|V (zAn (t:=.i) (undX 33 J) (szX 3 J) J J J e46)<|?_
    refine V (zAu (tsX 3 J) J J J (zCM e46) J)<|V va<|nl<|an<|sq<|rg<|V vm<|V vnp<|V vfp<|?_
    refine zAG (zAd (i:=1) (W76 s26 6 7) [.map .i Y4 s26.2.1,.map .i Y5 s26.2.2.1] J J J J)<|V vlp<|V vm<|?_
    refine V (zBG (kx:=x45) (r:=.agg [.i ((((mget s26.2.2.1 x45).getD (0,([] : Str),[]))).1),.str (((((mget s26.2.2.1 x45).getD (0,([] : Str),[]))).2).1),.sl .i (((((mget s26.2.2.1 x45).getD (0,([] : Str),[]))).2).2)]) (undX 74 J) kt3 zw42 J J J J J)<|O oa<|O os<|nl<|an<|sq<|rg<|V vfp<|V vlp<|?_
    refine zAK (zAP (σ:=[]) (as':=[.sl .i (((((mget s26.2.2.1 x45).getD (0,([] : Str),[]))).2).2)]) (f60_runs e48).x ent60 J ⟨cv0,trivial⟩ J J J ?_)
    obtain ⟨o54,e55,hr⟩:=zA hr
    refine V va<|nl<|an<|sq<|sq<|rg<|V vm<|V vnL<|V vm<|nl<|an<|bl<|?_
    refine zA5 (i:=9) J J (fun hl=>?_)
    refine zAI (List.length x47 : Int) (f18_b3 s14) (fun p=>match p with | (i49,s51)=>(⟨[(0,.ptr 0 0),(6,.nils),(7,.nils),(8,.i 0),(11,.ptr 1 0),(12,.map 2),(13,.osl 3),(14,.osl 4),(18,.i x45),(19,.ptr 5 0),(20,.osl 6),(78,.osl 7),(79,.i (List.length x22 : Int)),(80,.i i24),(93,.osl 6),(94,.i (List.length x47 : Int)),(95,.i i49)],[(0,.tr E76 (some p0_0)),(1,.tr E76 (some s26)),(2,.map .i .i s14),(3,.sl 60 Y6 s15),(4,.sl 60 Y6 s27),(5,.var 42 [.i ((((mget s26.2.2.1 x45).getD (0,([] : Str),[]))).1),.str (((((mget s26.2.2.1 x45).getD (0,([] : Str),[]))).2).1),.sl .i (((((mget s26.2.2.1 x45).getD (0,([] : Str),[]))).2).2)]),(6,.sl 3 .i s51),(7,.sl 3 .i x22)],8⟩ : AS)) (fun o e st=>match o with | .inr _=>False | .inl s51=>e=.exit 4∧Wk X st ⟨[(0,.ptr 0 0),(6,.nils),(7,.nils),(8,.i 0),(11,.ptr 1 0),(12,.map 2),(13,.osl 3),(14,.osl 4),(18,.i x45),(19,.ptr 5 0),(20,.osl 6),(78,.osl 7),(79,.i (List.length x22 : Int)),(80,.i i24)],[(0,.tr E76 (some p0_0)),(1,.tr E76 (some s26)),(2,.map .i .i s14),(3,.sl 60 Y6 s15),(4,.sl 60 Y6 s27),(5,.var 42 [.i ((((mget s26.2.2.1 x45).getD (0,([] : Str),[]))).1),.str (((((mget s26.2.2.1 x45).getD (0,([] : Str),[]))).2).1),.sl .i (((((mget s26.2.2.1 x45).getD (0,([] : Str),[]))).2).2)]),(6,.sl 3 .i s51),(7,.sl 3 .i x22)],8⟩) (zAf hl) e55 (Wk.trans (pk (i:=1) (e:=F76) (js:=[6,7]) s26) (by exact zAA hX [0,1,2,3,4,8,9,5] 4 J J wS wO)) ?_ ?_
    ·intro e st hx
     rcases o54 with s51 | _
     ·obtain ⟨rfl,hw⟩:=hx
      obtain ⟨x56,e57,hr⟩:=zA hr
      refine bh<|an<|(zAY hw)<|rg<|V vm<|V vm<|V vm<|V vfp<|V vlp<|V vm<|?_
      refine zAG (wk_frz [20,115] 6 J J J)<|?_
      refine zAK (zAP (σ:=[1]) (as':=[.ptr 1 0,.str (((((mget s26.2.2.1 x45).getD (0,([] : Str),[]))).2).1),.sl .i s51]) (f62_runs e57).x ent62 J ⟨cv0,cv0,cv0,trivial⟩ J J J ?_)
      refine V (zAs (qs:=[(0,[.i x45]),(1,[.i x56.1])]) (cs:=[.i x45,.i x56.1]) bt60 J J J)<|?_
      refine V (zAM (t:=Y6) (qs:=[(0,[.i x45,.i x56.1])]) (ys:=[(x45,x56.1)]) bs57 J J J J J J J J)<|?_
      obtain ⟨h58,hr⟩:=zAN hr
      refine zAK (zAh J J app57 J J J h58 J ?_)
      refine V va<|nl<|bn<|an<|rg<|V vad<|V vm<|?_
      obtain rfl:=Option.some.inj hr
      exact zAJ ((zAA hX [0,1,2,3,8,7] 4 J J wS wO))
     exact hx.elim
    rintro i49 s51 o ho
    refine sq<|rg<|V vls<|nl<|an<|sq<|?_
    refine zAO (b:=decide (i49 < (List.length x47 : Int))) J (fun hc59=>?_) (fun hc59=>?_)
    ·obtain ⟨q,hr,rfl⟩:=zA7 hc59 ho
     obtain ⟨x60,e61,hr⟩:=zA hr
     obtain ⟨x62,e63,hr⟩:=zA hr
     refine sk<|an<|sq<|bl<|sq<|rg<|V vm<|?_
     refine V (zAn (t:=.i) (undX 33 J) (szX 3 J) J J J e61)<|?_
     refine V (zAu (tsX 3 J) J J J (zCM e61) J)<|V va<|V va<|nl<|an<|rg<|V vm<|V vm<|V vm<|V vm<|?_
     refine V (zBG (kx:=x60) (r:=.i ((mget s14 x60).getD 0)) (undX 101 J) kt3 zw3 J J J J J)<|V vm<|?_
     refine V (zAM (t:=.i) (qs:=[(0,[.i ((mget s14 x60).getD 0)]),(1,[.i x60])]) (ys:=[((mget s14 x60).getD 0),x60]) bs33 J J J J J J J J)<|?_
     refine V (zAV (f61_runs e63).x ent61 J J)<|?_
     refine V (zAn (t:=.i) (undX 33 J) (szX 3 J) J J J e61)<|?_
     refine zAK (aop_store_ep (e':=x62) (szX 3 J) J J J J (zCM e61) J J J J J ?_)
     refine nl<|bn<|an<|rg<|V vad<|V vm<|?_
     obtain rfl:=Option.some.inj hr
     exact zAJ ((zAA hX [0,1,2,3,4,5,6,7] 4 J J wS wO))
    obtain rfl:=zA8 hc59 ho
    exact zAH (zAF (⟨rfl,(zAA hX [0,1,2,3,4,5,6,7] 4 J J wS wO)⟩))
   obtain rfl:=zA8 hc44 ho
   exact zAH (zAF (⟨rfl,(zAA hX [0,1,3,4] 4 J J wS wO)⟩))
  obtain ⟨rfl,hw⟩:=hx
  obtain rfl:=Option.some.inj hr
  exact zAE (zAC (zAe (l':=[(6,.sl Y6 ([] : List (Int×Int))),(7,.sl Y6 ([] : List (Int×Int))),(8,.i 4)]) (Hs:=[(0,.tr E76 (some p0_0))]) (n:=1) (Wk.trans hw (zAA hX [0] 4 J J ⟨⟨_,rfl,cv2⟩,⟨_,rfl,cv2⟩,⟨_,rfl,cv0⟩,trivial⟩ wO)) J J J ⟨rfl,rfl,rfl,trivial⟩))
 rintro i11 ⟨s13,s14,s15⟩ o ho
 refine sq<|rg<|V vls<|nl<|an<|sq<|?_
 refine zAO (b:=decide (i11 < (List.length x9 : Int))) J (fun hc64=>?_) (fun hc64=>?_)
 ·obtain ⟨q,hr,rfl⟩:=zA7 hc64 ho
  obtain ⟨x65,e66,hr⟩:=zA hr
  refine sk<|an<|sq<|bl<|sq<|rg<|V (zAn (t:=.i) (undX 33 J) (szX 3 J) J J J e66)<|?_
  refine V (zAu (tsX 3 J) J J J (zCM e66) J)<|V va<|nl<|an<|sq<|sq<|rg<|V vm<|V vnp<|V vfp<|?_
  refine zAG (zAd (i:=2) (W76 s13 9 10) [.map .i Y4 s13.2.1,.map .i Y5 s13.2.2.1] J J J J)<|V vlp<|?_
  refine V (zCa (tk:=.i) (tv:=Y4) J J (undX 73 J) J J)<|V veq<|nl<|an<|?_
  refine cnd (fun hc67 hr=>?_) (fun hc67 hr=>?_)
  ·refine sq<|rg<|V va<|V va<|V va<|?_
   obtain rfl:=Option.some.inj hr
   exact nl<|an<|cr<|zAC (zAE (zAC (⟨rfl,(zAA hX [0] 4 J J wS wO)⟩)))
  obtain ⟨x68,e69,hr⟩:=zA hr
  refine sk<|an<|sq<|rg<|V vm<|V vm<|V vm<|V vm<|V vm<|V vnp<|V vfp<|V vlp<|V vm<|?_
  refine V (zBG (kx:=x65) (r:=.agg [.i ((((mget s13.2.1 x65).getD (0,0,([] : Str)))).1),.i (((((mget s13.2.1 x65).getD (0,0,([] : Str)))).2).1),.str (((((mget s13.2.1 x65).getD (0,0,([] : Str)))).2).2)]) (undX 73 J) kt3 zw54 J J J J J)<|?_
  refine V (av_field fv54_2 J J)<|?_
  refine zAG (pk (i:=2) (e:=F76) (js:=[9,10]) s13)<|?_
  refine zAK (zAP (σ:=[2]) (as':=[.ptr 2 0,.i p2,.str (((((mget s13.2.1 x65).getD (0,0,([] : Str)))).2).2)]) (f23_runs e69).x ent23 J ⟨cv0,cv0,cv0,trivial⟩ J J J ?_)
  refine V vm<|V vx<|V vx<|?_
  refine zAK (zB (kx:=x65) (vx:=x68.1) (undX 101 J) kt3 (.inl J) J J J J J J J ?_)
  refine nl<|an<|rg<|V vm<|V vm<|V vm<|V vm<|?_
  refine V (zBG (kx:=x65) (r:=.i ((mget (mset s14 x65 x68.1) x65).getD 0)) (undX 101 J) kt3 zw3 J J J J J)<|?_
  refine V (zAs (qs:=[(0,[.i x65]),(1,[.i ((mget (mset s14 x65 x68.1) x65).getD 0)])]) (cs:=[.i x65,.i ((mget (mset s14 x65 x68.1) x65).getD 0)]) bt60 J J J)<|?_
  refine V (zAM (t:=Y6) (qs:=[(0,[.i x65,.i ((mget (mset s14 x65 x68.1) x65).getD 0)])]) (ys:=[(x65,((mget (mset s14 x65 x68.1) x65).getD 0))]) bs57 J J J J J J J J)<|?_
  obtain ⟨h70,hr⟩:=zAN hr
  refine zAK (zAh J J app57 J J J h70 J ?_)
  refine V va<|nl<|bn<|an<|rg<|V vad<|V vm<|?_
  obtain rfl:=Option.some.inj hr
  exact zAJ ((zAA hX [0,1,2,3,11,5,6,7,8] 4 J J wS wO))
 obtain rfl:=zA8 hc64 ho
 exact zAH (zAF (⟨rfl,(zAA hX [0,1,2,3,4,6,7,8] 4 J J wS wO)⟩))
theorem zCg {r:Bool}(hr:f7=some r) : zBb Tryz.prog 7 [] [.bool r]:=by
 refine zAW Tryz.func7 Tryz.ntmps7 J (rs:=[.tmp 0]) J J fun w0 X hX=>?_
 obtain ⟨x1,e2,hr⟩:=zA hr
 obtain ⟨x3,e4,hr⟩:=zA hr
 refine sq<|rg<|V va<|nl<|an<|sq<|rg<|?_
 refine V (zAV (f22_runs e2).x ent22 J J)<|?_
 refine zAK (zAP (σ:=[]) (as':=[.sl Y2 x1]) (f8_runs e4).x ent8 J ⟨cv0,trivial⟩ J J J ?_)
 refine V vm<|V vx<|V vx<|V va<|V va<|nl<|an<|sq<|sq<|?_
 refine zAa [0,1,2] [(true,.i x3.1),(true,.bool (!decide (x3.1=0))),(true,.bool (!decide (x3.1=0))),(!(!decide (x3.1=0)),.map 0),(!(!decide (x3.1=0)),.bool (Option.isNone x3.2)),(true,.bool ((!decide (x3.1=0))||(Option.isNone x3.2)))] [[],[0],[1],[2],[3,2],[4,2]] [5] J J J J J ⟨oB wm,oB wne,oB wm,oB wm,zAr ⟨rfl,rfl,rfl,_,rfl,rfl⟩ (fun hg=>zAD ⟨hg,rfl,trivial⟩) (fun hg=>av_eqnil_tr (i:=0) (Tt:=76) (e:=F76) (q:=x3.2) (undX 26 J) J J J),zBr,trivial⟩ (zAD ⟨rfl,trivial⟩) ?_
 refine an<|?_
 refine cnd (fun hc5 hr=>?_) (fun hc5 hr=>?_)
 ·refine sq<|rg<|V va<|?_
  obtain rfl:=Option.some.inj hr
  exact nl<|an<|cr<|zAC (zAk (l':=[(0,.bool false)]) (zAA hX [] 4 J J wS trivial) J ⟨rfl,trivial⟩)
 obtain ⟨o11,e12,hr⟩:=zA hr
 refine sk<|an<|sq<|sq<|rg<|V vm<|nl<|an<|bl<|?_
 refine zAI (S:=(Option (ZW))) (R:=Unit) 3 f7_b0 (fun p=>match p with | (i6,s8)=>(⟨[(0,.bool false),(1,.map 0),(20,.i i6)],[(0,.tr E76 s8)],1⟩ : AS)) (fun o e st=>match o with | .inr _=>False | .inl s8=>e=.exit 0∧Wk X st ⟨[(0,.bool false),(1,.map 0)],[(0,.tr E76 s8)],1⟩) (by decide) e12 (by exact zAA hX [0] 4 J J wS wO) ?_ ?_
 ·intro e st hx
  rcases o11 with s8 | _
  ·obtain ⟨rfl,hw⟩:=hx
   obtain ⟨x13,e14,hr⟩:=zA hr
   obtain ⟨x15,e16,hr⟩:=zA hr
   refine bh<|an<|(zAY hw)<|sq<|rg<|V vm<|?_
   refine V (zAM (t:=.i) (qs:=[(0,[.i 1]),(1,[.i 2])]) (ys:=[1,2]) bs33 J J J J J J J J)<|?_
   refine zAG (zA9 (t:=25) (i:=0) (T:=76) (e:=F76) (x:=x13) e14 J J)<|?_
   refine zAK (zAP (σ:=[0]) (as':=[.ptr 0 0,.str ([105,110] : Str),.sl .i [1,2]]) (f24_runs e16).x ent24 J ⟨cv0,cv0,cv0,trivial⟩ J J J ?_)
   obtain ⟨x17,e18,hr⟩:=zA hr
   refine nl<|an<|sq<|rg<|V vm<|?_
   refine V (zAM (t:=.i) (qs:=[(0,[.i 1]),(1,[.i 3])]) (ys:=[1,3]) bs33 J J J J J J J J)<|?_
   refine zAG (zA9 (t:=28) (i:=0) (T:=76) (e:=F76) (x:=x15.2.2) J J J)<|?_
   refine zAK (zAP (σ:=[0]) (as':=[.ptr 0 0,.str ([105,110] : Str),.sl .i [1,3]]) (f24_runs e18).x ent24 J ⟨cv0,cv0,cv0,trivial⟩ J J J ?_)
   obtain ⟨x19,e20,hr⟩:=zA hr
   refine nl<|an<|sq<|rg<|V vm<|?_
   refine zAG (zA9 (t:=32) (i:=0) (T:=76) (e:=F76) (x:=x17.2.2) J J J)<|?_
   refine zAK (zAP (σ:=[0]) (as':=[.ptr 0 0,.i 1,.i 5]) (f18_runs e20).x ent18 J ⟨cv0,cv0,cv0,trivial⟩ J J J ?_)
   obtain ⟨x21,e22,hr⟩:=zA hr
   refine V vm<|V vx<|V vx<|V vx<|V va<|V va<|V va<|nl<|an<|sq<|rg<|V vm<|?_
   refine zAG (zA9 (t:=38) (i:=0) (T:=76) (e:=F76) (x:=x19.2.2.2) J J J)<|?_
   refine zAK (zAP (σ:=[0]) (as':=[.ptr 0 0,.i 2,.i 5]) (f18_runs e22).x ent18 J ⟨cv0,cv0,cv0,trivial⟩ J J J ?_)
   refine V vm<|V vx<|V vx<|V vx<|V va<|V va<|V va<|nl<|an<|sq<|?_
   refine zAa [3,4,5,6,7,8] [(true,.i x19.2.2.1),(true,.bool (decide (x19.2.2.1=0))),(true,.bool (decide (x19.2.2.1=0))),(decide (x19.2.2.1=0),.sl Y6 x19.1),(decide (x19.2.2.1=0),.i (List.length x19.1 : Int)),(decide (x19.2.2.1=0),.bool (decide ((List.length x19.1 : Int)=3))),(true,.bool ((decide (x19.2.2.1=0))&&(decide ((List.length x19.1 : Int)=3)))),(true,.bool ((decide (x19.2.2.1=0))&&(decide ((List.length x19.1 : Int)=3)))),((decide (x19.2.2.1=0))&&(decide ((List.length x19.1 : Int)=3)),.sl Y6 x19.2.1),((decide (x19.2.2.1=0))&&(decide ((List.length x19.1 : Int)=3)),.i (List.length x19.2.1 : Int)),((decide (x19.2.2.1=0))&&(decide ((List.length x19.1 : Int)=3)),.bool (decide ((List.length x19.2.1 : Int)=2))),(true,.bool (((decide (x19.2.2.1=0))&&(decide ((List.length x19.1 : Int)=3)))&&(decide ((List.length x19.2.1 : Int)=2)))),(true,.bool (((decide (x19.2.2.1=0))&&(decide ((List.length x19.1 : Int)=3)))&&(decide ((List.length x19.2.1 : Int)=2)))),(((decide (x19.2.2.1=0))&&(decide ((List.length x19.1 : Int)=3)))&&(decide ((List.length x19.2.1 : Int)=2)),.i x21.2.2.1),(((decide (x19.2.2.1=0))&&(decide ((List.length x19.1 : Int)=3)))&&(decide ((List.length x19.2.1 : Int)=2)),.bool (decide (x21.2.2.1=0))),(true,.bool ((((decide (x19.2.2.1=0))&&(decide ((List.length x19.1 : Int)=3)))&&(decide ((List.length x19.2.1 : Int)=2)))&&(decide (x21.2.2.1=0)))),(true,.bool ((((decide (x19.2.2.1=0))&&(decide ((List.length x19.1 : Int)=3)))&&(decide ((List.length x19.2.1 : Int)=2)))&&(decide (x21.2.2.1=0)))),((((decide (x19.2.2.1=0))&&(decide ((List.length x19.1 : Int)=3)))&&(decide ((List.length x19.2.1 : Int)=2)))&&(decide (x21.2.2.1=0)),.sl Y6 x21.1),((((decide (x19.2.2.1=0))&&(decide ((List.length x19.1 : Int)=3)))&&(decide ((List.length x19.2.1 : Int)=2)))&&(decide (x21.2.2.1=0)),.i (List.length x21.1 : Int)),((((decide (x19.2.2.1=0))&&(decide ((List.length x19.1 : Int)=3)))&&(decide ((List.length x19.2.1 : Int)=2)))&&(decide (x21.2.2.1=0)),.bool (decide ((List.length x21.1 : Int)=1))),(true,.bool (((((decide (x19.2.2.1=0))&&(decide ((List.length x19.1 : Int)=3)))&&(decide ((List.length x19.2.1 : Int)=2)))&&(decide (x21.2.2.1=0)))&&(decide ((List.length x21.1 : Int)=1)))),(true,.bool (((((decide (x19.2.2.1=0))&&(decide ((List.length x19.1 : Int)=3)))&&(decide ((List.length x19.2.1 : Int)=2)))&&(decide (x21.2.2.1=0)))&&(decide ((List.length x21.1 : Int)=1)))),(((((decide (x19.2.2.1=0))&&(decide ((List.length x19.1 : Int)=3)))&&(decide ((List.length x19.2.1 : Int)=2)))&&(decide (x21.2.2.1=0)))&&(decide ((List.length x21.1 : Int)=1)),.sl Y6 x21.2.1),(((((decide (x19.2.2.1=0))&&(decide ((List.length x19.1 : Int)=3)))&&(decide ((List.length x19.2.1 : Int)=2)))&&(decide (x21.2.2.1=0)))&&(decide ((List.length x21.1 : Int)=1)),.i (List.length x21.2.1 : Int)),(((((decide (x19.2.2.1=0))&&(decide ((List.length x19.1 : Int)=3)))&&(decide ((List.length x19.2.1 : Int)=2)))&&(decide (x21.2.2.1=0)))&&(decide ((List.length x21.1 : Int)=1)),.bool (decide ((List.length x21.2.1 : Int)=0))),(true,.bool ((((((decide (x19.2.2.1=0))&&(decide ((List.length x19.1 : Int)=3)))&&(decide ((List.length x19.2.1 : Int)=2)))&&(decide (x21.2.2.1=0)))&&(decide ((List.length x21.1 : Int)=1)))&&(decide ((List.length x21.2.1 : Int)=0)))),(true,.bool ((((((decide (x19.2.2.1=0))&&(decide ((List.length x19.1 : Int)=3)))&&(decide ((List.length x19.2.1 : Int)=2)))&&(decide (x21.2.2.1=0)))&&(decide ((List.length x21.1 : Int)=1)))&&(decide ((List.length x21.2.1 : Int)=0))))] [[],[0],[1],[2],[3,2],[4,2],[5,2],[6],[7],[8,7],[9,7],[10,7],[11],[12],[13,12],[14,12],[15],[16],[17,16],[18,16],[19,16],[20],[21],[22,21],[23,21],[24,21],[25]] [26] J J J J J ⟨oB wm,oB weq,oB wm,oB wm,zAr ⟨rfl,rfl,rfl,_,rfl,rfl⟩ (fun hg=>zAD ⟨hg,rfl,trivial⟩) (fun hg=>zA0 (t:=Y6) J J (undX 57 J) J),oB weq,zBe,oB wm,oB wm,zAr ⟨rfl,rfl,rfl,_,rfl,rfl⟩ (fun hg=>zAD ⟨hg,rfl,trivial⟩) (fun hg=>zA0 (t:=Y6) J J (undX 57 J) J),oB weq,zBe,oB wm,oB wm,oB weq,zBe,oB wm,oB wm,zAr ⟨rfl,rfl,rfl,_,rfl,rfl⟩ (fun hg=>zAD ⟨hg,rfl,trivial⟩) (fun hg=>zA0 (t:=Y6) J J (undX 57 J) J),oB weq,zBe,oB wm,oB wm,zAr ⟨rfl,rfl,rfl,_,rfl,rfl⟩ (fun hg=>zAD ⟨hg,rfl,trivial⟩) (fun hg=>zA0 (t:=Y6) J J (undX 57 J) J),oB weq,zBe,oB wa,trivial⟩ (zAD ⟨rfl,trivial⟩) ?_
   obtain rfl:=Option.some.inj hr
   exact zAZ (zAw (zAk (l':=[(0,.bool ((((((decide (x19.2.2.1=0))&&(decide ((List.length x19.1 : Int)=3)))&&(decide ((List.length x19.2.1 : Int)=2)))&&(decide (x21.2.2.1=0)))&&(decide ((List.length x21.1 : Int)=1)))&&(decide ((List.length x21.2.1 : Int)=0))))]) (zAA hX [] 4 J J wS trivial) J ⟨rfl,trivial⟩))
  exact hx.elim
 rintro i6 s8 o ho
 refine sq<|rg<|V vls<|nl<|an<|sq<|?_
 refine zAO (b:=decide (i6 < 3)) J (fun hc23=>?_) (fun hc23=>?_)
 ·obtain ⟨q,hr,rfl⟩:=zA7 hc23 ho
  obtain ⟨x24,e25,hr⟩:=zA hr
  obtain ⟨x26,e27,hr⟩:=zA hr
  refine sk<|an<|sq<|bl<|rg<|V vm<|?_
  refine zAG (zA9 (t:=22) (i:=0) (T:=76) (e:=F76) (x:=x24) e25 J J)<|?_
  refine zAK (zAP (σ:=[0]) (as':=[.ptr 0 0,.i 0,.str ([] : Str)]) (f23_runs e27).x ent23 J ⟨cv0,cv0,cv0,trivial⟩ J J J ?_)
  refine nl<|bn<|an<|rg<|V vad<|V vm<|?_
  obtain rfl:=Option.some.inj hr
  exact zAJ ((zAA hX [0] 4 J J wS wO))
 obtain rfl:=zA8 hc23 ho
 exact zAH (zAF (⟨rfl,(zAA hX [0] 4 J J wS wO)⟩))
theorem f80_runs {p0:Str}{r:Bool}(hr:f80 p0=some r) : zBb Tryz.prog 80 [.str p0] [.bool r]:=by
 refine zAW Tryz.func80 Tryz.ntmps80 J (rs:=[.tmp 2]) J J fun w0 X hX=>?_
 refine sq<|rg<|V va<|nl<|an<|sq<|sq<|rg<|V vm<|V vnt<|V vm<|nl<|an<|bl<|?_
 obtain ⟨h3,hr⟩:=zAN hr
 obtain ⟨o4,e5,hr⟩:=zA hr
 refine zAI (List.length p0 : Int) (f80_b0 p0) (fun p=>match p with | (i1,())=>(⟨[(0,.str p0),(2,.bool false),(6,.i (List.length p0 : Int)),(7,.i i1)],[],0⟩ : AS)) (fun o e st=>match o with | .inl ()=>e=.exit 0∧Wk X st ⟨[(0,.str p0),(2,.bool false)],[],0⟩ | .inr ()=>e=.ret∧Wk X st ⟨[(2,.bool false)],[],0⟩) (of_decide_eq_true h3) e5 (by exact zAA hX [] 4 J J wS trivial) ?_ ?_
 ·intro e st hx
  rcases o4 with _ | _
  ·obtain ⟨rfl,hw⟩:=hx
   refine bh<|an<|(zAY hw)<|sq<|?_
   refine zAa [0] [(true,.str p0),(true,.bool (!decide (p0=([] : Str)))),(true,.bool (!decide (p0=([] : Str)))),(!decide (p0=([] : Str)),.str p0),(!decide (p0=([] : Str)),.i (List.length p0 : Int)),(!decide (p0=([] : Str)),.bool (decide ((List.length p0 : Int)≤32))),(true,.bool ((!decide (p0=([] : Str)))&&(decide ((List.length p0 : Int)≤32)))),(true,.bool ((!decide (p0=([] : Str)))&&(decide ((List.length p0 : Int)≤32))))] [[],[0],[1],[2],[3,2],[4,2],[5,2],[6]] [7] J J J J J ⟨oB wm,oB wns,oB wm,oB wm,oB wnt,oB wle,zBe,oB wa,trivial⟩ (zAD ⟨rfl,trivial⟩) ?_
   obtain rfl:=Option.some.inj hr
   exact zAZ (zAw (zAk (l':=[(2,.bool ((!decide (p0=([] : Str)))&&(decide ((List.length p0 : Int)≤32))))]) (zAA hX [] 4 J J wS trivial) J ⟨rfl,trivial⟩))
  obtain ⟨rfl,hw⟩:=hx
  obtain rfl:=Option.some.inj hr
  exact zAE (zAC (zAk (l':=[(2,.bool false)]) (Wk.trans hw (zAA hX [] 4 J J wS trivial)) J ⟨rfl,trivial⟩))
 rintro i1 _ o ho
 refine sq<|rg<|V vls<|nl<|an<|sq<|?_
 refine zAO (b:=decide (i1 < (List.length p0 : Int))) J (fun hc6=>?_) (fun hc6=>?_)
 ·obtain ⟨q,hr,rfl⟩:=zA7 hc6 ho
  obtain ⟨x7,e8,hr⟩:=zA hr
  refine sk<|an<|sq<|bl<|sq<|rg<|V vm<|V va<|nl<|an<|sq<|?_
  obtain ⟨h9,hr⟩:=zAN hr
  obtain ⟨h10,hr⟩:=zAN hr
  obtain ⟨h11,hr⟩:=zAN hr
  refine zAa [0,2,6,7,3] [(true,.str p0),(true,.i i1),(true,.int .u8 ((UInt8.toNat x7 : Nat) : Int)),(true,.bool (decide (97≤((UInt8.toNat x7 : Nat) : Int)))),(true,.bool (decide (97≤((UInt8.toNat x7 : Nat) : Int)))),(decide (97≤((UInt8.toNat x7 : Nat) : Int)),.str p0),(decide (97≤((UInt8.toNat x7 : Nat) : Int)),.i i1),(decide (97≤((UInt8.toNat x7 : Nat) : Int)),.int .u8 ((UInt8.toNat ((ix p0 i1).getD default) : Nat) : Int)),(decide (97≤((UInt8.toNat x7 : Nat) : Int)),.bool (decide (((UInt8.toNat ((ix p0 i1).getD default) : Nat) : Int)≤122))),(true,.bool ((decide (97≤((UInt8.toNat x7 : Nat) : Int)))&&(decide (((UInt8.toNat ((ix p0 i1).getD default) : Nat) : Int)≤122)))),(true,.bool ((decide (97≤((UInt8.toNat x7 : Nat) : Int)))&&(decide (((UInt8.toNat ((ix p0 i1).getD default) : Nat) : Int)≤122)))),(!((decide (97≤((UInt8.toNat x7 : Nat) : Int)))&&(decide (((UInt8.toNat ((ix p0 i1).getD default) : Nat) : Int)≤122))),.str p0),(!((decide (97≤((UInt8.toNat x7 : Nat) : Int)))&&(decide (((UInt8.toNat ((ix p0 i1).getD default) : Nat) : Int)≤122))),.i i1),(!((decide (97≤((UInt8.toNat x7 : Nat) : Int)))&&(decide (((UInt8.toNat ((ix p0 i1).getD default) : Nat) : Int)≤122))),.int .u8 ((UInt8.toNat ((ix p0 i1).getD default) : Nat) : Int)),(!((decide (97≤((UInt8.toNat x7 : Nat) : Int)))&&(decide (((UInt8.toNat ((ix p0 i1).getD default) : Nat) : Int)≤122))),.bool (decide (65≤((UInt8.toNat ((ix p0 i1).getD default) : Nat) : Int)))),(!((decide (97≤((UInt8.toNat x7 : Nat) : Int)))&&(decide (((UInt8.toNat ((ix p0 i1).getD default) : Nat) : Int)≤122))),.bool (decide (65≤((UInt8.toNat ((ix p0 i1).getD default) : Nat) : Int)))),((!((decide (97≤((UInt8.toNat x7 : Nat) : Int)))&&(decide (((UInt8.toNat ((ix p0 i1).getD default) : Nat) : Int)≤122))))&&(decide (65≤((UInt8.toNat ((ix p0 i1).getD default) : Nat) : Int))),.str p0),((!((decide (97≤((UInt8.toNat x7 : Nat) : Int)))&&(decide (((UInt8.toNat ((ix p0 i1).getD default) : Nat) : Int)≤122))))&&(decide (65≤((UInt8.toNat ((ix p0 i1).getD default) : Nat) : Int))),.i i1),((!((decide (97≤((UInt8.toNat x7 : Nat) : Int)))&&(decide (((UInt8.toNat ((ix p0 i1).getD default) : Nat) : Int)≤122))))&&(decide (65≤((UInt8.toNat ((ix p0 i1).getD default) : Nat) : Int))),.int .u8 ((UInt8.toNat ((ix p0 i1).getD default) : Nat) : Int)),((!((decide (97≤((UInt8.toNat x7 : Nat) : Int)))&&(decide (((UInt8.toNat ((ix p0 i1).getD default) : Nat) : Int)≤122))))&&(decide (65≤((UInt8.toNat ((ix p0 i1).getD default) : Nat) : Int))),.bool (decide (((UInt8.toNat ((ix p0 i1).getD default) : Nat) : Int)≤90))),(!((decide (97≤((UInt8.toNat x7 : Nat) : Int)))&&(decide (((UInt8.toNat ((ix p0 i1).getD default) : Nat) : Int)≤122))),.bool ((decide (65≤((UInt8.toNat ((ix p0 i1).getD default) : Nat) : Int)))&&(decide (((UInt8.toNat ((ix p0 i1).getD default) : Nat) : Int)≤90)))),(true,.bool (((decide (97≤((UInt8.toNat x7 : Nat) : Int)))&&(decide (((UInt8.toNat ((ix p0 i1).getD default) : Nat) : Int)≤122)))||((decide (65≤((UInt8.toNat ((ix p0 i1).getD default) : Nat) : Int)))&&(decide (((UInt8.toNat ((ix p0 i1).getD default) : Nat) : Int)≤90))))),(true,.bool (((decide (97≤((UInt8.toNat x7 : Nat) : Int)))&&(decide (((UInt8.toNat ((ix p0 i1).getD default) : Nat) : Int)≤122)))||((decide (65≤((UInt8.toNat ((ix p0 i1).getD default) : Nat) : Int)))&&(decide (((UInt8.toNat ((ix p0 i1).getD default) : Nat) : Int)≤90)))))] [[],[],[0,1],[2],[3],[4],[4],[5,6,4],[7,4],[8,4],[9],[10],[10],[11,12,10],[13,10],[14,10],[15],[15],[16,17,15],[18,15],[19,15,10],[20,10],[21]] [22] J J J J J ⟨oB wm,oB wm,zAr J (fun hg=>zAD ⟨rfl,rfl,trivial⟩) (fun hg=>zBB (undX 9 J) J J e8),oB wge,oB wm,oB wm,oB wm,zAr ⟨rfl,rfl,rfl,_,rfl,rfl⟩ (fun hg=>zAD ⟨hg,hg,rfl,trivial⟩) (fun hg=>zBB (undX 9 J) J J (zAz h9 hg)),oB wle,zBe,oB wm,oB wm,oB wm,zAr ⟨rfl,rfl,rfl,_,rfl,rfl⟩ (fun hg=>zAD ⟨hg,hg,rfl,trivial⟩) (fun hg=>zBB (undX 9 J) J J (zAz h10 hg)),oB wge,oB wm,oB wm,oB wm,zAr ⟨rfl,rfl,rfl,_,rfl,rfl⟩ (fun hg=>zAD ⟨hg,hg,(zBO hg),trivial⟩) (fun hg=>zBB (undX 9 J) J J (zAz h11 hg)),oB wle,zBC (b:=true) (p:=decide (65≤((UInt8.toNat ((ix p0 i1).getD default) : Nat) : Int))) (q:=decide (((UInt8.toNat ((ix p0 i1).getD default) : Nat) : Int)≤90)) ⟨rfl,rfl,rfl,_,rfl,rfl⟩ J J (fun hg=>zAD ⟨hg,rfl,trivial⟩) J J J J rfl,zBr,oB wa,trivial⟩ (zAD ⟨rfl,trivial⟩) ?_
  refine an<|sq<|?_
  obtain ⟨h12,hr⟩:=zAN hr
  obtain ⟨h13,hr⟩:=zAN hr
  obtain ⟨h14,hr⟩:=zAN hr
  refine zAa [0,2,6,7,3,4] [(true,.bool (((decide (97≤((UInt8.toNat x7 : Nat) : Int)))&&(decide (((UInt8.toNat ((ix p0 i1).getD default) : Nat) : Int)≤122)))||((decide (65≤((UInt8.toNat ((ix p0 i1).getD default) : Nat) : Int)))&&(decide (((UInt8.toNat ((ix p0 i1).getD default) : Nat) : Int)≤90))))),(true,.bool (!(((decide (97≤((UInt8.toNat x7 : Nat) : Int)))&&(decide (((UInt8.toNat ((ix p0 i1).getD default) : Nat) : Int)≤122)))||((decide (65≤((UInt8.toNat ((ix p0 i1).getD default) : Nat) : Int)))&&(decide (((UInt8.toNat ((ix p0 i1).getD default) : Nat) : Int)≤90)))))),(true,.bool (!(((decide (97≤((UInt8.toNat x7 : Nat) : Int)))&&(decide (((UInt8.toNat ((ix p0 i1).getD default) : Nat) : Int)≤122)))||((decide (65≤((UInt8.toNat ((ix p0 i1).getD default) : Nat) : Int)))&&(decide (((UInt8.toNat ((ix p0 i1).getD default) : Nat) : Int)≤90)))))),(!(((decide (97≤((UInt8.toNat x7 : Nat) : Int)))&&(decide (((UInt8.toNat ((ix p0 i1).getD default) : Nat) : Int)≤122)))||((decide (65≤((UInt8.toNat ((ix p0 i1).getD default) : Nat) : Int)))&&(decide (((UInt8.toNat ((ix p0 i1).getD default) : Nat) : Int)≤90)))),.i i1),(!(((decide (97≤((UInt8.toNat x7 : Nat) : Int)))&&(decide (((UInt8.toNat ((ix p0 i1).getD default) : Nat) : Int)≤122)))||((decide (65≤((UInt8.toNat ((ix p0 i1).getD default) : Nat) : Int)))&&(decide (((UInt8.toNat ((ix p0 i1).getD default) : Nat) : Int)≤90)))),.bool (decide (i1=0))),(!(((decide (97≤((UInt8.toNat x7 : Nat) : Int)))&&(decide (((UInt8.toNat ((ix p0 i1).getD default) : Nat) : Int)≤122)))||((decide (65≤((UInt8.toNat ((ix p0 i1).getD default) : Nat) : Int)))&&(decide (((UInt8.toNat ((ix p0 i1).getD default) : Nat) : Int)≤90)))),.bool (decide (i1=0))),((!(((decide (97≤((UInt8.toNat x7 : Nat) : Int)))&&(decide (((UInt8.toNat ((ix p0 i1).getD default) : Nat) : Int)≤122)))||((decide (65≤((UInt8.toNat ((ix p0 i1).getD default) : Nat) : Int)))&&(decide (((UInt8.toNat ((ix p0 i1).getD default) : Nat) : Int)≤90)))))&&(!(decide (i1=0))),.str p0),((!(((decide (97≤((UInt8.toNat x7 : Nat) : Int)))&&(decide (((UInt8.toNat ((ix p0 i1).getD default) : Nat) : Int)≤122)))||((decide (65≤((UInt8.toNat ((ix p0 i1).getD default) : Nat) : Int)))&&(decide (((UInt8.toNat ((ix p0 i1).getD default) : Nat) : Int)≤90)))))&&(!(decide (i1=0))),.i i1),((!(((decide (97≤((UInt8.toNat x7 : Nat) : Int)))&&(decide (((UInt8.toNat ((ix p0 i1).getD default) : Nat) : Int)≤122)))||((decide (65≤((UInt8.toNat ((ix p0 i1).getD default) : Nat) : Int)))&&(decide (((UInt8.toNat ((ix p0 i1).getD default) : Nat) : Int)≤90)))))&&(!(decide (i1=0))),.int .u8 ((UInt8.toNat ((ix p0 i1).getD default) : Nat) : Int)),((!(((decide (97≤((UInt8.toNat x7 : Nat) : Int)))&&(decide (((UInt8.toNat ((ix p0 i1).getD default) : Nat) : Int)≤122)))||((decide (65≤((UInt8.toNat ((ix p0 i1).getD default) : Nat) : Int)))&&(decide (((UInt8.toNat ((ix p0 i1).getD default) : Nat) : Int)≤90)))))&&(!(decide (i1=0))),.bool (decide (((UInt8.toNat ((ix p0 i1).getD default) : Nat) : Int) < 48))),((!(((decide (97≤((UInt8.toNat x7 : Nat) : Int)))&&(decide (((UInt8.toNat ((ix p0 i1).getD default) : Nat) : Int)≤122)))||((decide (65≤((UInt8.toNat ((ix p0 i1).getD default) : Nat) : Int)))&&(decide (((UInt8.toNat ((ix p0 i1).getD default) : Nat) : Int)≤90)))))&&(!(decide (i1=0))),.bool (decide (((UInt8.toNat ((ix p0 i1).getD default) : Nat) : Int) < 48))),(((!(((decide (97≤((UInt8.toNat x7 : Nat) : Int)))&&(decide (((UInt8.toNat ((ix p0 i1).getD default) : Nat) : Int)≤122)))||((decide (65≤((UInt8.toNat ((ix p0 i1).getD default) : Nat) : Int)))&&(decide (((UInt8.toNat ((ix p0 i1).getD default) : Nat) : Int)≤90)))))&&(!(decide (i1=0))))&&(!(decide (((UInt8.toNat ((ix p0 i1).getD default) : Nat) : Int) < 48))),.str p0),(((!(((decide (97≤((UInt8.toNat x7 : Nat) : Int)))&&(decide (((UInt8.toNat ((ix p0 i1).getD default) : Nat) : Int)≤122)))||((decide (65≤((UInt8.toNat ((ix p0 i1).getD default) : Nat) : Int)))&&(decide (((UInt8.toNat ((ix p0 i1).getD default) : Nat) : Int)≤90)))))&&(!(decide (i1=0))))&&(!(decide (((UInt8.toNat ((ix p0 i1).getD default) : Nat) : Int) < 48))),.i i1),(((!(((decide (97≤((UInt8.toNat x7 : Nat) : Int)))&&(decide (((UInt8.toNat ((ix p0 i1).getD default) : Nat) : Int)≤122)))||((decide (65≤((UInt8.toNat ((ix p0 i1).getD default) : Nat) : Int)))&&(decide (((UInt8.toNat ((ix p0 i1).getD default) : Nat) : Int)≤90)))))&&(!(decide (i1=0))))&&(!(decide (((UInt8.toNat ((ix p0 i1).getD default) : Nat) : Int) < 48))),.int .u8 ((UInt8.toNat ((ix p0 i1).getD default) : Nat) : Int)),(((!(((decide (97≤((UInt8.toNat x7 : Nat) : Int)))&&(decide (((UInt8.toNat ((ix p0 i1).getD default) : Nat) : Int)≤122)))||((decide (65≤((UInt8.toNat ((ix p0 i1).getD default) : Nat) : Int)))&&(decide (((UInt8.toNat ((ix p0 i1).getD default) : Nat) : Int)≤90)))))&&(!(decide (i1=0))))&&(!(decide (((UInt8.toNat ((ix p0 i1).getD default) : Nat) : Int) < 48))),.bool (decide (57 < ((UInt8.toNat ((ix p0 i1).getD default) : Nat) : Int)))),((!(((decide (97≤((UInt8.toNat x7 : Nat) : Int)))&&(decide (((UInt8.toNat ((ix p0 i1).getD default) : Nat) : Int)≤122)))||((decide (65≤((UInt8.toNat ((ix p0 i1).getD default) : Nat) : Int)))&&(decide (((UInt8.toNat ((ix p0 i1).getD default) : Nat) : Int)≤90)))))&&(!(decide (i1=0))),.bool ((decide (((UInt8.toNat ((ix p0 i1).getD default) : Nat) : Int) < 48))||(decide (57 < ((UInt8.toNat ((ix p0 i1).getD default) : Nat) : Int))))),((!(((decide (97≤((UInt8.toNat x7 : Nat) : Int)))&&(decide (((UInt8.toNat ((ix p0 i1).getD default) : Nat) : Int)≤122)))||((decide (65≤((UInt8.toNat ((ix p0 i1).getD default) : Nat) : Int)))&&(decide (((UInt8.toNat ((ix p0 i1).getD default) : Nat) : Int)≤90)))))&&(!(decide (i1=0))),.bool ((decide (((UInt8.toNat ((ix p0 i1).getD default) : Nat) : Int) < 48))||(decide (57 < ((UInt8.toNat ((ix p0 i1).getD default) : Nat) : Int))))),(((!(((decide (97≤((UInt8.toNat x7 : Nat) : Int)))&&(decide (((UInt8.toNat ((ix p0 i1).getD default) : Nat) : Int)≤122)))||((decide (65≤((UInt8.toNat ((ix p0 i1).getD default) : Nat) : Int)))&&(decide (((UInt8.toNat ((ix p0 i1).getD default) : Nat) : Int)≤90)))))&&(!(decide (i1=0))))&&((decide (((UInt8.toNat ((ix p0 i1).getD default) : Nat) : Int) < 48))||(decide (57 < ((UInt8.toNat ((ix p0 i1).getD default) : Nat) : Int)))),.str p0),(((!(((decide (97≤((UInt8.toNat x7 : Nat) : Int)))&&(decide (((UInt8.toNat ((ix p0 i1).getD default) : Nat) : Int)≤122)))||((decide (65≤((UInt8.toNat ((ix p0 i1).getD default) : Nat) : Int)))&&(decide (((UInt8.toNat ((ix p0 i1).getD default) : Nat) : Int)≤90)))))&&(!(decide (i1=0))))&&((decide (((UInt8.toNat ((ix p0 i1).getD default) : Nat) : Int) < 48))||(decide (57 < ((UInt8.toNat ((ix p0 i1).getD default) : Nat) : Int)))),.i i1),(((!(((decide (97≤((UInt8.toNat x7 : Nat) : Int)))&&(decide (((UInt8.toNat ((ix p0 i1).getD default) : Nat) : Int)≤122)))||((decide (65≤((UInt8.toNat ((ix p0 i1).getD default) : Nat) : Int)))&&(decide (((UInt8.toNat ((ix p0 i1).getD default) : Nat) : Int)≤90)))))&&(!(decide (i1=0))))&&((decide (((UInt8.toNat ((ix p0 i1).getD default) : Nat) : Int) < 48))||(decide (57 < ((UInt8.toNat ((ix p0 i1).getD default) : Nat) : Int)))),.int .u8 ((UInt8.toNat ((ix p0 i1).getD default) : Nat) : Int)),(((!(((decide (97≤((UInt8.toNat x7 : Nat) : Int)))&&(decide (((UInt8.toNat ((ix p0 i1).getD default) : Nat) : Int)≤122)))||((decide (65≤((UInt8.toNat ((ix p0 i1).getD default) : Nat) : Int)))&&(decide (((UInt8.toNat ((ix p0 i1).getD default) : Nat) : Int)≤90)))))&&(!(decide (i1=0))))&&((decide (((UInt8.toNat ((ix p0 i1).getD default) : Nat) : Int) < 48))||(decide (57 < ((UInt8.toNat ((ix p0 i1).getD default) : Nat) : Int)))),.bool (!decide (((UInt8.toNat ((ix p0 i1).getD default) : Nat) : Int)=95))),((!(((decide (97≤((UInt8.toNat x7 : Nat) : Int)))&&(decide (((UInt8.toNat ((ix p0 i1).getD default) : Nat) : Int)≤122)))||((decide (65≤((UInt8.toNat ((ix p0 i1).getD default) : Nat) : Int)))&&(decide (((UInt8.toNat ((ix p0 i1).getD default) : Nat) : Int)≤90)))))&&(!(decide (i1=0))),.bool (((decide (((UInt8.toNat ((ix p0 i1).getD default) : Nat) : Int) < 48))||(decide (57 < ((UInt8.toNat ((ix p0 i1).getD default) : Nat) : Int))))&&(!decide (((UInt8.toNat ((ix p0 i1).getD default) : Nat) : Int)=95)))),(!(((decide (97≤((UInt8.toNat x7 : Nat) : Int)))&&(decide (((UInt8.toNat ((ix p0 i1).getD default) : Nat) : Int)≤122)))||((decide (65≤((UInt8.toNat ((ix p0 i1).getD default) : Nat) : Int)))&&(decide (((UInt8.toNat ((ix p0 i1).getD default) : Nat) : Int)≤90)))),.bool ((decide (i1=0))||(((decide (((UInt8.toNat ((ix p0 i1).getD default) : Nat) : Int) < 48))||(decide (57 < ((UInt8.toNat ((ix p0 i1).getD default) : Nat) : Int))))&&(!decide (((UInt8.toNat ((ix p0 i1).getD default) : Nat) : Int)=95))))),(true,.bool ((!(((decide (97≤((UInt8.toNat x7 : Nat) : Int)))&&(decide (((UInt8.toNat ((ix p0 i1).getD default) : Nat) : Int)≤122)))||((decide (65≤((UInt8.toNat ((ix p0 i1).getD default) : Nat) : Int)))&&(decide (((UInt8.toNat ((ix p0 i1).getD default) : Nat) : Int)≤90)))))&&((decide (i1=0))||(((decide (((UInt8.toNat ((ix p0 i1).getD default) : Nat) : Int) < 48))||(decide (57 < ((UInt8.toNat ((ix p0 i1).getD default) : Nat) : Int))))&&(!decide (((UInt8.toNat ((ix p0 i1).getD default) : Nat) : Int)=95))))))] [[],[0],[1],[2],[3,2],[4,2],[5],[5],[6,7,5],[8,5],[9,5],[10],[10],[11,12,10],[13,10],[14,10,5],[15,5],[16],[16],[17,18,16],[19,16],[20,16,5],[21,5,2],[22,2]] [23] J J J J J ⟨oB wm,oB wno,oB wm,oB wm,oB weq,oB wm,oB wm,oB wm,zAr ⟨rfl,rfl,rfl,_,rfl,rfl⟩ (fun hg=>zAD ⟨hg,hg,(zBO hg),trivial⟩) (fun hg=>zBB (undX 9 J) J J (zAz h12 hg)),oB wls,oB wm,oB wm,oB wm,zAr ⟨rfl,rfl,rfl,_,rfl,rfl⟩ (fun hg=>zAD ⟨hg,hg,(zBO hg),trivial⟩) (fun hg=>zBB (undX 9 J) J J (zAz h13 hg)),oB wgt,zBC (b:=false) (p:=decide (((UInt8.toNat ((ix p0 i1).getD default) : Nat) : Int) < 48)) (q:=decide (57 < ((UInt8.toNat ((ix p0 i1).getD default) : Nat) : Int))) ⟨rfl,rfl,rfl,_,rfl,rfl⟩ J J (fun hg=>zAD ⟨hg,(zBO hg),trivial⟩) J J J J rfl,oB wm,oB wm,oB wm,zAr ⟨rfl,rfl,rfl,_,rfl,rfl⟩ (fun hg=>zAD ⟨hg,hg,(zBO hg),trivial⟩) (fun hg=>zBB (undX 9 J) J J (zAz h14 hg)),oB wne,zBC (b:=true) (p:=(decide (((UInt8.toNat ((ix p0 i1).getD default) : Nat) : Int) < 48))||(decide (57 < ((UInt8.toNat ((ix p0 i1).getD default) : Nat) : Int)))) (q:=!decide (((UInt8.toNat ((ix p0 i1).getD default) : Nat) : Int)=95)) ⟨rfl,rfl,rfl,_,rfl,rfl⟩ J J (fun hg=>zAD ⟨hg,(zBO hg),trivial⟩) J J J J rfl,zBC (b:=false) (p:=decide (i1=0)) (q:=((decide (((UInt8.toNat ((ix p0 i1).getD default) : Nat) : Int) < 48))||(decide (57 < ((UInt8.toNat ((ix p0 i1).getD default) : Nat) : Int))))&&(!decide (((UInt8.toNat ((ix p0 i1).getD default) : Nat) : Int)=95))) ⟨rfl,rfl,rfl,_,rfl,rfl⟩ J J (fun hg=>zAD ⟨hg,rfl,trivial⟩) J J J J rfl,zBe,trivial⟩ (zAD ⟨rfl,trivial⟩) ?_
  refine an<|?_
  refine cnd (fun hc15 hr=>?_) (fun hc15 hr=>?_)
  ·refine sq<|rg<|V va<|?_
   obtain rfl:=Option.some.inj hr
   exact nl<|an<|cr<|zAE (zAC (⟨rfl,(zAA hX [] 4 J J wS trivial)⟩))
  refine sk<|bn<|an<|rg<|V vad<|V vm<|?_
  obtain rfl:=Option.some.inj hr
  exact zAJ ((zAA hX [] 4 J J wS trivial))
 obtain rfl:=zA8 hc6 ho
 exact zAH (zAF (⟨rfl,(zAA hX [] 4 J J wS trivial)⟩))
theorem f29_runs {p0:ZS}{r:Bool}(hr:f29 p0=some r) : zBb Tryz.prog 29 [.agg [.str p0.1,.sl Y1 p0.2]] [.bool r]:=by
 refine zAW Tryz.func29 Tryz.ntmps29 J (rs:=[.tmp 2]) J J fun w0 X hX=>?_
 obtain ⟨x1,e2,hr⟩:=zA hr
 refine sq<|rg<|O ob<|V va<|nl<|an<|sq<|sq<|?_
 refine zAa [1,2] [(true,.ptr 0 0),(true,.str p0.1),(true,.bool x1),(true,.bool (!x1)),(true,.bool (!x1)),(!(!x1),.ptr 0 1),(!(!x1),.sl Y1 p0.2),(!(!x1),.i (List.length p0.2 : Int)),(!(!x1),.bool (decide ((List.length p0.2 : Int) < 2))),(true,.bool ((!x1)||(decide ((List.length p0.2 : Int) < 2)))),(true,.bool ((!x1)||(decide ((List.length p0.2 : Int) < 2)))),(!((!x1)||(decide ((List.length p0.2 : Int) < 2))),.ptr 0 1),(!((!x1)||(decide ((List.length p0.2 : Int) < 2))),.sl Y1 p0.2),(!((!x1)||(decide ((List.length p0.2 : Int) < 2))),.i (List.length p0.2 : Int)),(!((!x1)||(decide ((List.length p0.2 : Int) < 2))),.bool (decide (3 < (List.length p0.2 : Int)))),(true,.bool (((!x1)||(decide ((List.length p0.2 : Int) < 2)))||(decide (3 < (List.length p0.2 : Int)))))] [[],[0],[1],[2],[3],[4],[5,4],[6,4],[7,4],[8,4],[9],[10],[11,10],[12,10],[13,10],[14,10]] [15] J J J J J ⟨oB wfp,oB wlp,zAr J (fun hg=>zAD ⟨rfl,trivial⟩) (fun hg=>zAV (f80_runs e2).x ent80 J J),oB wno,oB wm,oB wfp,oB wlp,zAr ⟨rfl,rfl,rfl,_,rfl,rfl⟩ (fun hg=>zAD ⟨hg,rfl,trivial⟩) (fun hg=>zA0 (t:=Y1) J J (undX 45 J) J),oB wls,zBr,oB wm,oB wfp,oB wlp,zAr ⟨rfl,rfl,rfl,_,rfl,rfl⟩ (fun hg=>zAD ⟨hg,rfl,trivial⟩) (fun hg=>zA0 (t:=Y1) J J (undX 45 J) J),oB wgt,zBr,trivial⟩ (zAD ⟨rfl,trivial⟩) ?_
 refine an<|?_
 refine cnd (fun hc3 hr=>?_) (fun hc3 hr=>?_)
 ·refine sq<|rg<|V va<|?_
  obtain rfl:=Option.some.inj hr
  exact nl<|an<|cr<|zAC (zAk (l':=[(2,.bool false)]) (zAA hX [] 4 J J wS trivial) J ⟨rfl,trivial⟩)
 obtain ⟨o6,e7,hr⟩:=zA hr
 refine sk<|an<|sq<|sq<|rg<|V vfp<|V vlp<|V vnl<|V vm<|nl<|an<|bl<|?_
 refine zAb (t:=26) J (fun hl=>?_)
 refine zAI (List.length p0.2 : Int) (f29_b0 p0) (fun p=>match p with | (i4,())=>(⟨[(1,.ptr 0 0),(2,.bool false),(26,.sl Y1 p0.2),(27,.i (List.length p0.2 : Int)),(28,.i i4)],[(0,.var 47 [.str p0.1,.sl Y1 p0.2])],1⟩ : AS)) (fun o e st=>match o with | .inl ()=>e=.exit 0∧Wk X st ⟨[(2,.bool false)],[],0⟩ | .inr ()=>e=.ret∧Wk X st ⟨[(2,.bool false)],[],0⟩) (zAf hl) e7 (by exact zAA hX [0] 4 J J wS wO) ?_ ?_
 ·intro e st hx
  rcases o6 with _ | _
  ·obtain ⟨rfl,hw⟩:=hx
   refine bh<|an<|(zAY hw)<|sq<|rg<|V va<|?_
   obtain rfl:=Option.some.inj hr
   exact nl<|an<|cr<|zAk (l':=[(2,.bool true)]) (zAA hX [] 4 J J wS trivial) J ⟨rfl,trivial⟩
  obtain ⟨rfl,hw⟩:=hx
  obtain rfl:=Option.some.inj hr
  exact zAE (zAC (zAk (l':=[(2,.bool false)]) (Wk.trans hw (zAA hX [] 4 J J wS trivial)) J ⟨rfl,trivial⟩))
 rintro i4 _ o ho
 refine sq<|rg<|V vls<|nl<|an<|sq<|?_
 refine zAO (b:=decide (i4 < (List.length p0.2 : Int))) J (fun hc8=>?_) (fun hc8=>?_)
 ·obtain ⟨q,hr,rfl⟩:=zA7 hc8 ho
  obtain ⟨x9,e10,hr⟩:=zA hr
  refine sk<|an<|sq<|bl<|sq<|rg<|V vm<|?_
  refine V (zAQ (t:=Y1) (e:=x9) (undX 45 J) (szX 49 J) J J e10)<|V vlR<|O oa<|V va<|O os<|nl<|an<|sq<|sq<|rg<|V vfp<|V vlp<|V vm<|?_
  obtain ⟨h11,hr⟩:=zAN hr
  obtain ⟨o14,e15,hr⟩:=zA hr
  refine V (av_slice_sl (t:=Y1) (l:=0) (h:=i4) (undX 45 J) (szX 49 J) J J ⟨_,rfl⟩ h11)<|V vnl<|V vm<|nl<|an<|bl<|?_
  refine zAb (t:=36) J (fun hl=>?_)
  refine zAI (List.length ((p0.2.take (Int.toNat i4)).drop (Int.toNat 0)) : Int) (f29_b1 p0 i4 x9) (fun p=>match p with | (i12,())=>(⟨[(1,.ptr 0 0),(2,.bool false),(4,.ptr 1 0),(26,.sl Y1 p0.2),(27,.i (List.length p0.2 : Int)),(28,.i i4),(36,.sl Y1 ((p0.2.take (Int.toNat i4)).drop (Int.toNat 0))),(37,.i (List.length ((p0.2.take (Int.toNat i4)).drop (Int.toNat 0)) : Int)),(38,.i i12)],[(0,.var 47 [.str p0.1,.sl Y1 p0.2]),(1,.var 49 [.str x9.1,.i x9.2.1,.i x9.2.2.1,.i x9.2.2.2.1,.i x9.2.2.2.2.1,.i x9.2.2.2.2.2])],2⟩ : AS)) (fun o e st=>match o with | .inl ()=>e=.exit 2∧Wk X st ⟨[(1,.ptr 0 0),(2,.bool false),(4,.ptr 1 0),(26,.sl Y1 p0.2),(27,.i (List.length p0.2 : Int)),(28,.i i4)],[(0,.var 47 [.str p0.1,.sl Y1 p0.2]),(1,.var 49 [.str x9.1,.i x9.2.1,.i x9.2.2.1,.i x9.2.2.2.1,.i x9.2.2.2.2.1,.i x9.2.2.2.2.2])],2⟩ | .inr ()=>e=.ret∧Wk X st ⟨[(2,.bool false)],[],0⟩) (zAf hl) e15 (by exact zAA hX [0,1] 4 J J wS wO) ?_ ?_
  ·intro e st hx
   rcases o14 with _ | _
   ·obtain ⟨rfl,hw⟩:=hx
    obtain ⟨o18,e19,hr⟩:=zA hr
    refine bh<|an<|(zAY hw)<|sq<|sq<|rg<|V vfp<|V vlp<|V vfp<|V vlp<|V vfp<|V vlp<|?_
    refine V (zAM (t:=.i) (qs:=[(0,[.i x9.2.2.2.1]),(1,[.i x9.2.2.2.2.1]),(2,[.i x9.2.2.2.2.2])]) (ys:=[x9.2.2.2.1,x9.2.2.2.2.1,x9.2.2.2.2.2]) bs33 J J J J J J J J)<|V vnl<|V vm<|nl<|an<|bl<|?_
    refine zAb (t:=54) J (fun hl=>?_)
    refine zAI (List.length [x9.2.2.2.1,x9.2.2.2.2.1,x9.2.2.2.2.2] : Int) (f29_b2 x9) (fun p=>match p with | (i16,())=>(⟨[(1,.ptr 0 0),(2,.bool false),(4,.ptr 1 0),(26,.sl Y1 p0.2),(27,.i (List.length p0.2 : Int)),(28,.i i4),(54,.sl .i [x9.2.2.2.1,x9.2.2.2.2.1,x9.2.2.2.2.2]),(55,.i (List.length [x9.2.2.2.1,x9.2.2.2.2.1,x9.2.2.2.2.2] : Int)),(56,.i i16)],[(0,.var 47 [.str p0.1,.sl Y1 p0.2]),(1,.var 49 [.str x9.1,.i x9.2.1,.i x9.2.2.1,.i x9.2.2.2.1,.i x9.2.2.2.2.1,.i x9.2.2.2.2.2])],2⟩ : AS)) (fun o e st=>match o with | .inl ()=>e=.exit 4∧Wk X st ⟨[(1,.ptr 0 0),(2,.bool false),(4,.ptr 1 0),(26,.sl Y1 p0.2),(27,.i (List.length p0.2 : Int)),(28,.i i4)],[(0,.var 47 [.str p0.1,.sl Y1 p0.2]),(1,.var 49 [.str x9.1,.i x9.2.1,.i x9.2.2.1,.i x9.2.2.2.1,.i x9.2.2.2.2.1,.i x9.2.2.2.2.2])],2⟩ | .inr ()=>e=.ret∧Wk X st ⟨[(2,.bool false)],[],0⟩) (zAf hl) e19 (by exact zAA hX [0,1] 4 J J wS wO) ?_ ?_
    ·intro e st hx
     rcases o18 with _ | _
     ·obtain ⟨rfl,hw⟩:=hx
      obtain ⟨x20,e21,hr⟩:=zA hr
      refine bh<|an<|(zAY hw)<|sq<|?_
      refine zAa [1,2,4,26,27,28] [(true,.ptr 1 0),(true,.str x9.1),(true,.bool x20),(true,.bool (!x20)),(true,.bool (!x20)),(!(!x20),.ptr 1 1),(!(!x20),.i x9.2.1),(!(!x20),.bool (decide (x9.2.1 < 0))),(true,.bool ((!x20)||(decide (x9.2.1 < 0)))),(true,.bool ((!x20)||(decide (x9.2.1 < 0)))),(!((!x20)||(decide (x9.2.1 < 0))),.ptr 1 1),(!((!x20)||(decide (x9.2.1 < 0))),.i x9.2.1),(!((!x20)||(decide (x9.2.1 < 0))),.bool (decide (1 < x9.2.1))),(true,.bool (((!x20)||(decide (x9.2.1 < 0)))||(decide (1 < x9.2.1)))),(true,.bool (((!x20)||(decide (x9.2.1 < 0)))||(decide (1 < x9.2.1)))),(!(((!x20)||(decide (x9.2.1 < 0)))||(decide (1 < x9.2.1))),.ptr 1 2),(!(((!x20)||(decide (x9.2.1 < 0)))||(decide (1 < x9.2.1))),.i x9.2.2.1),(!(((!x20)||(decide (x9.2.1 < 0)))||(decide (1 < x9.2.1))),.bool (decide (x9.2.2.1 < 0))),(true,.bool ((((!x20)||(decide (x9.2.1 < 0)))||(decide (1 < x9.2.1)))||(decide (x9.2.2.1 < 0)))),(true,.bool ((((!x20)||(decide (x9.2.1 < 0)))||(decide (1 < x9.2.1)))||(decide (x9.2.2.1 < 0)))),(!((((!x20)||(decide (x9.2.1 < 0)))||(decide (1 < x9.2.1)))||(decide (x9.2.2.1 < 0))),.ptr 1 2),(!((((!x20)||(decide (x9.2.1 < 0)))||(decide (1 < x9.2.1)))||(decide (x9.2.2.1 < 0))),.i x9.2.2.1),(!((((!x20)||(decide (x9.2.1 < 0)))||(decide (1 < x9.2.1)))||(decide (x9.2.2.1 < 0))),.bool (decide (100 < x9.2.2.1))),(true,.bool (((((!x20)||(decide (x9.2.1 < 0)))||(decide (1 < x9.2.1)))||(decide (x9.2.2.1 < 0)))||(decide (100 < x9.2.2.1))))] [[],[0],[1],[2],[3],[4],[5,4],[6,4],[7,4],[8],[9],[10,9],[11,9],[12,9],[13],[14],[15,14],[16,14],[17,14],[18],[19],[20,19],[21,19],[22,19]] [23] J J J J J ⟨oB wfp,oB wlp,zAr J (fun hg=>zAD ⟨rfl,trivial⟩) (fun hg=>zAV (f80_runs e21).x ent80 J J),oB wno,oB wm,oB wfp,oB wlp,oB wls,zBr,oB wm,oB wfp,oB wlp,oB wgt,zBr,oB wm,oB wfp,oB wlp,oB wls,zBr,oB wm,oB wfp,oB wlp,oB wgt,zBr,trivial⟩ (zAD ⟨rfl,trivial⟩) ?_
      refine an<|?_
      refine cnd (fun hc22 hr=>?_) (fun hc22 hr=>?_)
      ·refine sq<|rg<|V va<|?_
       obtain rfl:=Option.some.inj hr
       exact nl<|an<|cr<|zAE (zAC (⟨rfl,(zAA hX [] 4 J J wS trivial)⟩))
      refine sk<|bn<|an<|rg<|V vad<|V vm<|?_
      obtain rfl:=Option.some.inj hr
      exact zAJ ((zAA hX [0] 4 J J wS wO))
     obtain ⟨rfl,hw⟩:=hx
     obtain rfl:=Option.some.inj hr
     exact zAE (zAC (zAE (zAC (⟨rfl,(Wk.trans hw (zAA hX [] 4 J J wS trivial))⟩))))
    rintro i16 _ o ho
    refine sq<|rg<|V vls<|nl<|an<|sq<|?_
    refine zAO (b:=decide (i16 < (List.length [x9.2.2.2.1,x9.2.2.2.2.1,x9.2.2.2.2.2] : Int))) J (fun hc23=>?_) (fun hc23=>?_)
    ·obtain ⟨q,hr,rfl⟩:=zA7 hc23 ho
     obtain ⟨x24,e25,hr⟩:=zA hr
     refine sk<|an<|sq<|bl<|sq<|rg<|V (zAQ (t:=.i) (e:=x24) (undX 33 J) (szX 3 J) J J e25)<|V vlr<|V va<|nl<|an<|sq<|?_
     refine zAa [1,2,4,26,27,28,54,55,56,8] [(true,.i x24),(true,.bool (decide (x24 < 1))),(true,.bool (decide (x24 < 1))),(!(decide (x24 < 1)),.i x24),(!(decide (x24 < 1)),.bool (decide (3 < x24))),(true,.bool ((decide (x24 < 1))||(decide (3 < x24))))] [[],[0],[1],[2],[3,2],[4,2]] [5] J J J J J ⟨oB wm,oB wls,oB wm,oB wm,oB wgt,zBr,trivial⟩ (zAD ⟨rfl,trivial⟩) ?_
     refine an<|?_
     refine cnd (fun hc26 hr=>?_) (fun hc26 hr=>?_)
     ·refine sq<|rg<|V va<|?_
      obtain rfl:=Option.some.inj hr
      exact nl<|an<|cr<|zAE (zAC (⟨rfl,(zAA hX [] 4 J J wS trivial)⟩))
     refine sk<|bn<|an<|rg<|V vad<|V vm<|?_
     obtain rfl:=Option.some.inj hr
     exact zAJ ((zAA hX [0,1] 4 J J wS wO))
    obtain rfl:=zA8 hc23 ho
    exact zAH (zAF (⟨rfl,(zAA hX [0,1] 4 J J wS wO)⟩))
   obtain ⟨rfl,hw⟩:=hx
   obtain rfl:=Option.some.inj hr
   exact zAE (zAC (zAE (zAC (⟨rfl,(Wk.trans hw (zAA hX [] 4 J J wS trivial))⟩))))
  rintro i12 _ o ho
  refine sq<|rg<|V vls<|nl<|an<|sq<|?_
  refine zAO (b:=decide (i12 < (List.length ((p0.2.take (Int.toNat i4)).drop (Int.toNat 0)) : Int))) J (fun hc27=>?_) (fun hc27=>?_)
  ·obtain ⟨q,hr,rfl⟩:=zA7 hc27 ho
   obtain ⟨x28,e29,hr⟩:=zA hr
   refine sk<|an<|sq<|bl<|sq<|rg<|V (zAQ (t:=Y1) (e:=x28) (undX 45 J) (szX 49 J) J J e29)<|V vlR<|O oa<|O os<|nl<|an<|sq<|rg<|V vfp<|V vlp<|V vfp<|V vlp<|V ves<|nl<|an<|?_
   refine cnd (fun hc30 hr=>?_) (fun hc30 hr=>?_)
   ·refine sq<|rg<|V va<|?_
    obtain rfl:=Option.some.inj hr
    exact nl<|an<|cr<|zAE (zAC (⟨rfl,(zAA hX [] 4 J J wS trivial)⟩))
   refine sk<|bn<|an<|rg<|V vad<|V vm<|?_
   obtain rfl:=Option.some.inj hr
   exact zAJ ((zAA hX [0,1] 4 J J wS wO))
  obtain rfl:=zA8 hc27 ho
  exact zAH (zAF (⟨rfl,(zAA hX [0,1] 4 J J wS wO)⟩))
 obtain rfl:=zA8 hc8 ho
 exact zAH (zAF (⟨rfl,(zAA hX [] 4 J J wS trivial)⟩))
theorem f9_runs {p0:List (ZS)}{r:Int×(Option (ZR))}(hr:f9 p0=some r) : Runs Tryz.prog 9 [.sl Y2 p0] [] (fun q Hq=>q=[.map 0,.i r.1]∧Hq=[.tr E80 r.2]):=by
 refine zAW Tryz.func9 Tryz.ntmps9 J (rs:=[.tmp 2,.tmp 3]) J J fun w0 X hX=>?_
 obtain ⟨o4,e5,hr⟩:=zA hr
 refine sq<|rg<|V va<|V va<|nl<|an<|sq<|sq<|rg<|V vm<|V vnl<|V vm<|nl<|an<|bl<|?_
 refine zAb (t:=0) J (fun hl=>?_)
 refine zAI (List.length p0 : Int) (f9_b0 p0) (fun p=>match p with | (i2,())=>(⟨[(0,.sl Y2 p0),(2,.nilp),(3,.i 0),(8,.sl Y2 p0),(9,.i (List.length p0 : Int)),(10,.i i2)],[],0⟩ : AS)) (fun o e st=>match o with | .inl ()=>e=.exit 0∧Wk X st ⟨[(0,.sl Y2 p0),(2,.nilp),(3,.i 0)],[],0⟩ | .inr ()=>e=.ret∧Wk X st ⟨[(2,.nilp),(3,.i 1)],[],0⟩) (zAf hl) e5 (by exact zAA hX [] 4 J J wS trivial) ?_ ?_
 ·intro e st hx
  rcases o4 with _ | _
  ·obtain ⟨rfl,hw⟩:=hx
   refine bh<|an<|(zAY hw)<|sq<|sq<|rg<|V vm<|V vnl<|V vgt<|nl<|an<|?_
   refine cnd (fun hc6 hr=>?_) (fun hc6 hr=>?_)
   ·refine sq<|rg<|V va<|V va<|?_
    obtain rfl:=Option.some.inj hr
    exact nl<|an<|cr<|zAC (zAe (l':=[(2,.map 0),(3,.i 1)]) (Hs:=[(0,.tr E80 none)]) (n:=1) (Wk.trans (wk_trnil (t:=2) E80 J J) (zAA hX [0] 4 J J wS wO)) J J J ⟨rfl,rfl,trivial⟩)
   refine sk<|an<|sq<|rg<|V vm<|?_
   refine V (zAs (qs:=[(0,[.sl Y2 p0]),(3,[.i 1]),(4,[.i 1])]) (cs:=[.sl Y2 p0,.nils,.nils,.i 1,.i 1]) bt80 J J J)<|O ob<|V va<|V va<|?_
   obtain rfl:=Option.some.inj hr
   exact nl<|an<|cr<|zAe (l':=[(2,.map 0),(3,.i 0)]) (Hs:=[(0,.tr E80 (some (p0,([] : List (Int×Int×Str)),([] : List (Int×Str×List Int)),1,1)))]) (n:=1) (Wk.trans (pk (i:=0) (e:=F80) (js:=[]) (p0,([] : List (Int×Int×Str)),([] : List (Int×Str×List Int)),1,1)) (zAA hX [0] 4 J J ⟨⟨_,rfl,cv6⟩,⟨_,rfl,cv0⟩,trivial⟩ wO)) J J J ⟨rfl,rfl,trivial⟩
  obtain ⟨rfl,hw⟩:=hx
  obtain rfl:=Option.some.inj hr
  exact zAE (zAC (zAe (l':=[(2,.map 0),(3,.i 1)]) (Hs:=[(0,.tr E80 none)]) (n:=1) (Wk.trans hw (Wk.trans (wk_trnil (t:=2) E80 J J) (zAA hX [0] 4 J J wS wO))) J J J ⟨rfl,rfl,trivial⟩))
 rintro i2 _ o ho
 refine sq<|rg<|V vls<|nl<|an<|sq<|?_
 refine zAO (b:=decide (i2 < (List.length p0 : Int))) J (fun hc7=>?_) (fun hc7=>?_)
 ·obtain ⟨q,hr,rfl⟩:=zA7 hc7 ho
  obtain ⟨x8,e9,hr⟩:=zA hr
  obtain ⟨x10,e11,hr⟩:=zA hr
  refine sk<|an<|sq<|bl<|sq<|rg<|V vm<|?_
  refine V (zAQ (t:=Y2) (e:=x8) (undX 22 J) (szX 47 J) J J e9)<|V vlR<|O oa<|V va<|O os<|nl<|an<|sq<|sq<|rg<|V vlP<|?_
  refine V (zAV (f29_runs e11).x ent29 J J)<|V vno<|nl<|an<|?_
  refine cnd (fun hc12 hr=>?_) (fun hc12 hr=>?_)
  ·refine sq<|rg<|V va<|V va<|?_
   obtain rfl:=Option.some.inj hr
   exact nl<|an<|cr<|zAC (zAE (zAC (⟨rfl,(zAA hX [] 4 J J wS trivial)⟩)))
  refine sk<|an<|sq<|rg<|V vm<|V vm<|?_
  obtain ⟨h13,hr⟩:=zAN hr
  obtain ⟨o16,e17,hr⟩:=zA hr
  refine V (av_slice_sl (t:=Y2) (l:=0) (h:=i2) (undX 22 J) (szX 47 J) J J ⟨_,rfl⟩ h13)<|V vnl<|V vm<|nl<|an<|bl<|?_
  refine zAb (t:=20) J (fun hl=>?_)
  refine zAI (List.length ((p0.take (Int.toNat i2)).drop (Int.toNat 0)) : Int) (f9_b1 p0 i2 x8) (fun p=>match p with | (i14,())=>(⟨[(0,.sl Y2 p0),(2,.nilp),(3,.i 0),(5,.ptr 0 0),(8,.sl Y2 p0),(9,.i (List.length p0 : Int)),(10,.i i2),(20,.sl Y2 ((p0.take (Int.toNat i2)).drop (Int.toNat 0))),(21,.i (List.length ((p0.take (Int.toNat i2)).drop (Int.toNat 0)) : Int)),(22,.i i14)],[(0,.var 47 [.str x8.1,.sl Y1 x8.2])],1⟩ : AS)) (fun o e st=>match o with | .inl ()=>e=.exit 2∧Wk X st ⟨[(0,.sl Y2 p0),(2,.nilp),(3,.i 0),(8,.sl Y2 p0),(9,.i (List.length p0 : Int)),(10,.i i2)],[],0⟩ | .inr ()=>e=.ret∧Wk X st ⟨[(2,.nilp),(3,.i 1)],[],0⟩) (zAf hl) e17 (by exact zAA hX [0] 4 J J wS wO) ?_ ?_
  ·intro e st hx
   rcases o16 with _ | _
   ·obtain ⟨rfl,hw⟩:=hx
    refine bh<|bn<|an<|(zAY hw)<|rg<|V vad<|V vm<|?_
    obtain rfl:=Option.some.inj hr
    exact zAJ ((zAA hX [] 4 J J wS trivial))
   obtain ⟨rfl,hw⟩:=hx
   obtain rfl:=Option.some.inj hr
   exact zAE (zAE (zAC (⟨rfl,(Wk.trans hw (zAA hX [] 4 J J wS trivial))⟩)))
  rintro i14 _ o ho
  refine sq<|rg<|V vls<|nl<|an<|sq<|?_
  refine zAO (b:=decide (i14 < (List.length ((p0.take (Int.toNat i2)).drop (Int.toNat 0)) : Int))) J (fun hc18=>?_) (fun hc18=>?_)
  ·obtain ⟨q,hr,rfl⟩:=zA7 hc18 ho
   obtain ⟨x19,e20,hr⟩:=zA hr
   refine sk<|an<|sq<|bl<|sq<|rg<|V (zAQ (t:=Y2) (e:=x19) (undX 22 J) (szX 47 J) J J e20)<|V vlR<|O oa<|O os<|nl<|an<|sq<|rg<|V vfp<|V vlp<|V vfp<|V vlp<|V ves<|nl<|an<|?_
   refine cnd (fun hc21 hr=>?_) (fun hc21 hr=>?_)
   ·refine sq<|rg<|V va<|V va<|?_
    obtain rfl:=Option.some.inj hr
    exact nl<|an<|cr<|zAE (zAC (⟨rfl,(zAA hX [] 4 J J wS trivial)⟩))
   refine sk<|bn<|an<|rg<|V vad<|V vm<|?_
   obtain rfl:=Option.some.inj hr
   exact zAJ ((zAA hX [0] 4 J J wS wO))
  obtain rfl:=zA8 hc18 ho
  exact zAH (zAF (⟨rfl,(zAA hX [] 4 J J wS trivial)⟩))
 obtain rfl:=zA8 hc7 ho
 exact zAH (zAF (⟨rfl,(zAA hX [] 4 J J wS trivial)⟩))
theorem f30_runs {p0:ZR}{r:List Int}(hr:f30 p0=some r) : Runs Tryz.prog 30 [.rp (R80 p0)] [] (fun q Hq=>q=[.osl 0]∧Hq=[.sl 3 .i r]):=by
 refine zAW Tryz.func30 Tryz.ntmps30 J (rs:=[.tmp 2]) J J fun w0 X hX=>?_
 obtain ⟨o7,e8,hr⟩:=zA hr
 refine sq<|rg<|V va<|nl<|an<|sq<|rg<|V va<|nl<|an<|sq<|sq<|rg<|V vm<|V vnr<|V vfr<|V vlr<|V vnl<|V vm<|nl<|an<|bl<|?_
 refine zAb (t:=9) J (fun hl=>?_)
 refine zAI (List.length p0.2.1 : Int) (f30_b0 p0) (fun p=>match p with | (i2,s4)=>(⟨[(2,.nils),(3,.osl 0),(9,.sl Y4 p0.2.1),(10,.i (List.length p0.2.1 : Int)),(11,.i i2)],[(0,.sl 3 .i s4)],1⟩ : AS)) (fun o e st=>match o with | .inr _=>False | .inl s4=>e=.exit 0∧Wk X st ⟨[(2,.nils),(3,.osl 0)],[(0,.sl 3 .i s4)],1⟩) (zAf hl) e8 (Wk.trans (zAt (t:=3) 3 .i J) (by exact zAA hX [0] 4 J J wS wO)) ?_ ?_
 ·intro e st hx
  rcases o7 with s4 | _
  ·obtain ⟨rfl,hw⟩:=hx
   refine bh<|an<|(zAY hw)<|sq<|rg<|V vm<|V va<|?_
   obtain rfl:=Option.some.inj hr
   exact nl<|an<|cr<|zAe (l':=[(2,.osl 0)]) (Hs:=[(0,.sl 3 .i s4)]) (n:=1) (zAA hX [0] 4 J J wS wO) J J J ⟨rfl,trivial⟩
  exact hx.elim
 rintro i2 s4 o ho
 refine sq<|rg<|V vls<|nl<|an<|sq<|?_
 refine zAO (b:=decide (i2 < (List.length p0.2.1 : Int))) J (fun hc9=>?_) (fun hc9=>?_)
 ·obtain ⟨q,hr,rfl⟩:=zA7 hc9 ho
  obtain ⟨x10,e11,hr⟩:=zA hr
  refine sk<|an<|sq<|bl<|sq<|rg<|V (zAQ (t:=Y4) (e:=x10) (undX 52 J) (szX 54 J) J J e11)<|V vlR<|O oa<|O os<|nl<|an<|rg<|V vm<|V vfp<|V vlp<|?_
  refine V (zAM (t:=.i) (qs:=[(0,[.i x10.1])]) (ys:=[x10.1]) bs33 J J J J J J J J)<|?_
  obtain ⟨h12,hr⟩:=zAN hr
  refine zAK (zAh J J zCt J J J h12 J ?_)
  refine V va<|nl<|bn<|an<|rg<|V vad<|V vm<|?_
  obtain rfl:=Option.some.inj hr
  exact zAJ ((zAA hX [2] 4 J J wS wO))
 obtain rfl:=zA8 hc9 ho
 exact zAH (zAF (⟨rfl,(zAA hX [0] 4 J J wS wO)⟩))
theorem ent30 : Enters Tryz.prog 30:=enters_of Tryz.func30 (by kernel_rfl) rfl
theorem ent31 : Enters Tryz.prog 31:=enters_of Tryz.func31 (by kernel_rfl) rfl
theorem app52 : AppT Tryz.prog 52 54 (Ty.cells Y4) 32:=appT_of (z:=.agg #[.int .i64 0,.int .i64 0,.string ByteArray.empty]) (by kernel_rfl) (by kernel_rfl) J rfl
theorem app78 : AppT Tryz.prog 78 42 (Ty.cells Y5) 48:=appT_of (z:=.agg #[.int .i64 0,.string ByteArray.empty,.slice none 0 0]) (by kernel_rfl) (by kernel_rfl) J rfl
theorem bs78 : BuildS Tryz.prog 78 42 Y5:=zCh (z:=.agg #[.int .i64 0,.string ByteArray.empty,.slice none 0 0]) (by kernel_rfl) (by kernel_rfl) rfl
theorem f31_runs {p0:ZR}{r:List Int}(hr:f31 p0=some r) : Runs Tryz.prog 31 [.rp (R80 p0)] [] (fun q Hq=>q=[.osl 0]∧Hq=[.sl 3 .i r]):=by
 refine zAW Tryz.func31 Tryz.ntmps31 J (rs:=[.tmp 2]) J J fun w0 X hX=>?_
 obtain ⟨o7,e8,hr⟩:=zA hr
 refine sq<|rg<|V va<|nl<|an<|sq<|rg<|V va<|nl<|an<|sq<|sq<|rg<|V vm<|V vnr<|V vfr<|V vlr<|V vnl<|V vm<|nl<|an<|bl<|?_
 refine zAb (t:=9) J (fun hl=>?_)
 refine zAI (List.length p0.2.2.1 : Int) (f31_b0 p0) (fun p=>match p with | (i2,s4)=>(⟨[(2,.nils),(3,.osl 0),(9,.sl Y5 p0.2.2.1),(10,.i (List.length p0.2.2.1 : Int)),(11,.i i2)],[(0,.sl 3 .i s4)],1⟩ : AS)) (fun o e st=>match o with | .inr _=>False | .inl s4=>e=.exit 0∧Wk X st ⟨[(2,.nils),(3,.osl 0)],[(0,.sl 3 .i s4)],1⟩) (zAf hl) e8 (Wk.trans (zAt (t:=3) 3 .i J) (by exact zAA hX [0] 4 J J wS wO)) ?_ ?_
 ·intro e st hx
  rcases o7 with s4 | _
  ·obtain ⟨rfl,hw⟩:=hx
   refine bh<|an<|(zAY hw)<|sq<|rg<|V vm<|V va<|?_
   obtain rfl:=Option.some.inj hr
   exact nl<|an<|cr<|zAe (l':=[(2,.osl 0)]) (Hs:=[(0,.sl 3 .i s4)]) (n:=1) (zAA hX [0] 4 J J wS wO) J J J ⟨rfl,trivial⟩
  exact hx.elim
 rintro i2 s4 o ho
 refine sq<|rg<|V vls<|nl<|an<|sq<|?_
 refine zAO (b:=decide (i2 < (List.length p0.2.2.1 : Int))) J (fun hc9=>?_) (fun hc9=>?_)
 ·obtain ⟨q,hr,rfl⟩:=zA7 hc9 ho
  obtain ⟨x10,e11,hr⟩:=zA hr
  refine sk<|an<|sq<|bl<|sq<|rg<|V (zAQ (t:=Y5) (e:=x10) (undX 78 J) (szX 42 J) J J e11)<|V vlR<|O oa<|O os<|nl<|an<|rg<|V vm<|V vfp<|V vlp<|?_
  refine V (zAM (t:=.i) (qs:=[(0,[.i x10.1])]) (ys:=[x10.1]) bs33 J J J J J J J J)<|?_
  obtain ⟨h12,hr⟩:=zAN hr
  refine zAK (zAh J J zCt J J J h12 J ?_)
  refine V va<|nl<|bn<|an<|rg<|V vad<|V vm<|?_
  obtain rfl:=Option.some.inj hr
  exact zAJ ((zAA hX [2] 4 J J wS wO))
 obtain rfl:=zA8 hc9 ho
 exact zAH (zAF (⟨rfl,(zAA hX [0] 4 J J wS wO)⟩))
theorem f10_runs {p0:ZR}{r:Bool}(hr:f10 p0=some r) : zBb Tryz.prog 10 [.rp (R80 p0)] [.bool r]:=by
 refine zAW Tryz.func10 Tryz.ntmps10 J (rs:=[.tmp 2]) J J fun w0 X hX=>?_
 obtain ⟨x1,e2,hr⟩:=zA hr
 refine sq<|rg<|V va<|nl<|an<|sq<|?_
 obtain ⟨h3,hr⟩:=zAN hr
 refine zAa [0] [(true,.rp (R80 p0)),(true,.sl .i x1),(true,.i (List.length x1 : Int)),(true,.bool (decide (60 < (List.length x1 : Int)))),(true,.bool (decide (60 < (List.length x1 : Int)))),(!(decide (60 < (List.length x1 : Int))),.rp (R80 p0)),(!(decide (60 < (List.length x1 : Int))),.sl .i ((f31 p0).getD default)),(!(decide (60 < (List.length x1 : Int))),.i (List.length ((f31 p0).getD default) : Int)),(!(decide (60 < (List.length x1 : Int))),.bool (decide (80 < (List.length ((f31 p0).getD default) : Int)))),(true,.bool ((decide (60 < (List.length x1 : Int)))||(decide (80 < (List.length ((f31 p0).getD default) : Int))))),(true,.bool ((decide (60 < (List.length x1 : Int)))||(decide (80 < (List.length ((f31 p0).getD default) : Int)))))] [[],[0],[1],[2],[3],[4],[5,4],[6,4],[7,4],[8,4],[9]] [10] J J J J J ⟨oB wm,zAr J (fun hg=>zAD ⟨rfl,trivial⟩) (fun hg=>zBD (as':=[.rp (R80 p0)]) (Hs:=[.sl 3 .i x1]) (f30_runs e2).x ent30 J ⟨cv0,trivial⟩ J J J),zAr J (fun hg=>zAD ⟨rfl,trivial⟩) (fun hg=>zA0 (t:=.i) J J (undX 33 J) J),oB wgt,oB wm,oB wm,zAr ⟨rfl,rfl,rfl,_,rfl,rfl⟩ (fun hg=>zAD ⟨hg,rfl,trivial⟩) (fun hg=>zBD (as':=[.rp (R80 p0)]) (Hs:=[.sl 3 .i ((f31 p0).getD default)]) (f31_runs (zAz h3 hg)).x ent31 J ⟨cv0,trivial⟩ J J J),zAr ⟨rfl,rfl,rfl,_,rfl,rfl⟩ (fun hg=>zAD ⟨hg,rfl,trivial⟩) (fun hg=>zA0 (t:=.i) J J (undX 33 J) J),oB wgt,zBr,oB wa,trivial⟩ (zAD ⟨rfl,trivial⟩) ?_
 obtain rfl:=Option.some.inj hr
 exact zAZ (zAw (zAk (l':=[(2,.bool ((decide (60 < (List.length x1 : Int)))||(decide (80 < (List.length ((f31 p0).getD default) : Int)))))]) (zAA hX [] 4 J J wS trivial) J ⟨rfl,trivial⟩))
theorem f81_runs {p0:ZR}{p1:Str}{r:(ZS)×Bool}(hr:f81 p0 p1=some r) : zBb Tryz.prog 81 [.rp (R80 p0),.str p1] [.agg [.str r.1.1,.sl Y1 r.1.2],.bool r.2]:=by
 refine zAW Tryz.func81 Tryz.ntmps81 J (rs:=[.cell 4 47,.tmp 5]) J J fun w0 X hX=>?_
 obtain ⟨o5,e6,hr⟩:=zA hr
 refine sq<|rg<|O oa<|V va<|nl<|an<|sq<|sq<|rg<|V vm<|V vnr<|V vfr<|V vlr<|V vnl<|V vm<|nl<|an<|bl<|?_
 refine zAb (t:=11) J (fun hl=>?_)
 refine zAI (S:=Unit) (R:=Str×(List (ZO))) (List.length p0.1 : Int) (f81_b0 p0 p1) (fun p=>match p with | (i1,())=>(⟨[(1,.str p1),(4,.ptr 0 0),(5,.bool false),(11,.sl Y2 p0.1),(12,.i (List.length p0.1 : Int)),(13,.i i1)],[(0,.var 47 [.str ([] : Str),.nils])],1⟩ : AS)) (fun o e st=>match o with | .inl ()=>e=.exit 0∧Wk X st ⟨[(4,.ptr 0 0),(5,.bool false)],[(0,.var 47 [.str ([] : Str),.nils])],1⟩ | .inr (s3,s4)=>e=.ret∧Wk X st ⟨[(4,.ptr 0 0),(5,.bool true)],[(0,.var 47 [.str s3,.sl Y1 s4])],1⟩) (zAf hl) e6 (by exact zAA hX [0] 4 J J wS wO) ?_ ?_
 ·intro e st hx
  rcases o5 with _ | ⟨s3,s4⟩
  ·obtain ⟨rfl,hw⟩:=hx
   refine bh<|an<|(zAY hw)<|sq<|rg<|V (zAs (qs:=[]) (cs:=[.str ([] : Str),.nils]) bt47 J J J)<|?_
   refine zAG (wk_agg (t:=23) (cs':=[.str ([] : Str),.sl Y1 ([] : List (ZO))]) J ⟨cv0,cv2,trivial⟩)<|O os<|V va<|?_
   obtain rfl:=Option.some.inj hr
   exact nl<|an<|cr<|zAk (l':=[(4,.rp [.str ([] : Str),.sl Y1 ([] : List (ZO))]),(5,.bool false)]) (zAA hX [] 4 J J wS trivial) J ⟨(.inr ⟨_,2,rfl,(tsX 47 J),rfl,rfl⟩),rfl,trivial⟩
  obtain ⟨rfl,hw⟩:=hx
  obtain rfl:=Option.some.inj hr
  exact zAE (zAC (zAk (l':=[(4,.rp [.str s3,.sl Y1 s4]),(5,.bool true)]) (Wk.trans hw (zAA hX [] 4 J J wS trivial)) J ⟨(.inr ⟨_,2,rfl,(tsX 47 J),rfl,rfl⟩),rfl,trivial⟩))
 rintro i1 _ o ho
 refine sq<|rg<|V vls<|nl<|an<|sq<|?_
 refine zAO (b:=decide (i1 < (List.length p0.1 : Int))) J (fun hc7=>?_) (fun hc7=>?_)
 ·obtain ⟨q,hr,rfl⟩:=zA7 hc7 ho
  obtain ⟨x8,e9,hr⟩:=zA hr
  refine sk<|an<|sq<|bl<|sq<|rg<|V (zAQ (t:=Y2) (e:=x8) (undX 22 J) (szX 47 J) J J e9)<|V vlR<|O oa<|O os<|nl<|an<|sq<|rg<|V vfp<|V vlp<|V vm<|V ves<|nl<|an<|?_
  refine cnd (fun hc10 hr=>?_) (fun hc10 hr=>?_)
  ·refine sq<|rg<|V vlP<|O os<|V va<|?_
   obtain rfl:=Option.some.inj hr
   exact nl<|an<|cr<|zAE (zAC (⟨rfl,(zAA hX [0] 4 J J wS wO)⟩))
  refine sk<|bn<|an<|rg<|V vad<|V vm<|?_
  obtain rfl:=Option.some.inj hr
  exact zAJ ((zAA hX [0] 4 J J wS wO))
 obtain rfl:=zA8 hc7 ho
 exact zAH (zAF (⟨rfl,(zAA hX [0] 4 J J wS wO)⟩))
theorem f81o_runs {p0_0:ZR}{p1:Str}{r:(ZS)×Bool}(hr:f81o p0_0 p1=some r) : Runs Tryz.prog 81 [.ptr 0 0,.str p1] [.tr E80 (some p0_0)] (fun q Hq=>q=[.agg [.str r.1.1,.sl Y1 r.1.2],.bool r.2]∧Hq=[.tr E80 (some p0_0)]):=by
 refine zAW Tryz.func81 Tryz.ntmps81 J (rs:=[.cell 4 47,.tmp 5]) J J fun w0 X hX=>?_
 obtain ⟨o5,e6,hr⟩:=zA hr
 refine sq<|rg<|O oa<|V va<|nl<|an<|sq<|sq<|rg<|V vm<|V vnp<|V vfp<|?_
 refine zAG (zAd (i:=0) [.sl Y2 p0_0.1,.osl 2,.osl 3,.i p0_0.2.2.2.1,.i p0_0.2.2.2.2] [.sl 54 Y4 p0_0.2.1,.sl 42 Y5 p0_0.2.2.1] J J J J)<|V vlp<|V vnl<|V vm<|nl<|an<|bl<|?_
 refine zAb (t:=11) J (fun hl=>?_)
 refine zAI (S:=Unit) (R:=Str×(List (ZO))) (List.length p0_0.1 : Int) (f81o_b0 p0_0 p1) (fun p=>match p with | (i1,())=>(⟨[(1,.str p1),(4,.ptr 1 0),(5,.bool false),(11,.sl Y2 p0_0.1),(12,.i (List.length p0_0.1 : Int)),(13,.i i1)],[(0,.tr E80 (some p0_0)),(1,.var 47 [.str ([] : Str),.nils])],2⟩ : AS)) (fun o e st=>match o with | .inl ()=>e=.exit 0∧Wk X st ⟨[(4,.ptr 1 0),(5,.bool false)],[(0,.tr E80 (some p0_0)),(1,.var 47 [.str ([] : Str),.nils])],2⟩ | .inr (s3,s4)=>e=.ret∧Wk X st ⟨[(4,.ptr 1 0),(5,.bool true)],[(0,.tr E80 (some p0_0)),(1,.var 47 [.str s3,.sl Y1 s4])],2⟩) (zAf hl) e6 (Wk.trans (pk (i:=0) (e:=F80) (js:=[2,3]) p0_0) (by exact zAA hX [0,1] 4 J J wS wO)) ?_ ?_
 ·intro e st hx
  rcases o5 with _ | ⟨s3,s4⟩
  ·obtain ⟨rfl,hw⟩:=hx
   refine bh<|an<|(zAY hw)<|sq<|rg<|V (zAs (qs:=[]) (cs:=[.str ([] : Str),.nils]) bt47 J J J)<|?_
   refine zAG (wk_agg (t:=23) (cs':=[.str ([] : Str),.sl Y1 ([] : List (ZO))]) J ⟨cv0,cv2,trivial⟩)<|O os<|V va<|?_
   obtain rfl:=Option.some.inj hr
   exact nl<|an<|cr<|zAe (l':=[(4,.rp [.str ([] : Str),.sl Y1 ([] : List (ZO))]),(5,.bool false)]) (Hs:=[(0,.tr E80 (some p0_0))]) (n:=1) (zAA hX [0] 4 J J wS wO) J J J ⟨(.inr ⟨_,2,rfl,(tsX 47 J),rfl,rfl⟩),rfl,trivial⟩
  obtain ⟨rfl,hw⟩:=hx
  obtain rfl:=Option.some.inj hr
  exact zAE (zAC (zAe (l':=[(4,.rp [.str s3,.sl Y1 s4]),(5,.bool true)]) (Hs:=[(0,.tr E80 (some p0_0))]) (n:=1) (Wk.trans hw (zAA hX [0] 4 J J wS wO)) J J J ⟨(.inr ⟨_,2,rfl,(tsX 47 J),rfl,rfl⟩),rfl,trivial⟩))
 rintro i1 _ o ho
 refine sq<|rg<|V vls<|nl<|an<|sq<|?_
 refine zAO (b:=decide (i1 < (List.length p0_0.1 : Int))) J (fun hc7=>?_) (fun hc7=>?_)
 ·obtain ⟨q,hr,rfl⟩:=zA7 hc7 ho
  obtain ⟨x8,e9,hr⟩:=zA hr
  refine sk<|an<|sq<|bl<|sq<|rg<|V (zAQ (t:=Y2) (e:=x8) (undX 22 J) (szX 47 J) J J e9)<|V vlR<|O oa<|O os<|nl<|an<|sq<|rg<|V vfp<|V vlp<|V vm<|V ves<|nl<|an<|?_
  refine cnd (fun hc10 hr=>?_) (fun hc10 hr=>?_)
  ·refine sq<|rg<|V vlP<|O os<|V va<|?_
   obtain rfl:=Option.some.inj hr
   exact nl<|an<|cr<|zAE (zAC (⟨rfl,(zAA hX [0,1] 4 J J wS wO)⟩))
  refine sk<|bn<|an<|rg<|V vad<|V vm<|?_
  obtain rfl:=Option.some.inj hr
  exact zAJ ((zAA hX [0,1] 4 J J wS wO))
 obtain rfl:=zA8 hc7 ho
 exact zAH (zAF (⟨rfl,(zAA hX [0,1] 4 J J wS wO)⟩))
theorem f82_runs {p0:ZR}{p1:Int}{r:Bool}(hr:f82 p0 p1=some r) : zBb Tryz.prog 82 [.rp (R80 p0),.i p1] [.bool r]:=by
 refine zAW Tryz.func82 Tryz.ntmps82 J (rs:=[.tmp 4]) J J fun w0 X hX=>?_
 obtain ⟨o3,e4,hr⟩:=zA hr
 refine sq<|rg<|V va<|nl<|an<|sq<|sq<|rg<|V vm<|V vnr<|V vfr<|V vlr<|V vnl<|V vm<|nl<|an<|bl<|?_
 refine zAb (t:=10) J (fun hl=>?_)
 refine zAI (List.length p0.2.1 : Int) (f82_b0 p0 p1) (fun p=>match p with | (i1,())=>(⟨[(1,.i p1),(4,.bool false),(10,.sl Y4 p0.2.1),(11,.i (List.length p0.2.1 : Int)),(12,.i i1)],[],0⟩ : AS)) (fun o e st=>match o with | .inl ()=>e=.exit 0∧Wk X st ⟨[(4,.bool false)],[],0⟩ | .inr ()=>e=.ret∧Wk X st ⟨[(4,.bool true)],[],0⟩) (zAf hl) e4 (by exact zAA hX [] 4 J J wS trivial) ?_ ?_
 ·intro e st hx
  rcases o3 with _ | _
  ·obtain ⟨rfl,hw⟩:=hx
   refine bh<|an<|(zAY hw)<|sq<|rg<|V va<|?_
   obtain rfl:=Option.some.inj hr
   exact nl<|an<|cr<|zAk (l':=[(4,.bool false)]) (zAA hX [] 4 J J wS trivial) J ⟨rfl,trivial⟩
  obtain ⟨rfl,hw⟩:=hx
  obtain rfl:=Option.some.inj hr
  exact zAE (zAC (zAk (l':=[(4,.bool true)]) (Wk.trans hw (zAA hX [] 4 J J wS trivial)) J ⟨rfl,trivial⟩))
 rintro i1 _ o ho
 refine sq<|rg<|V vls<|nl<|an<|sq<|?_
 refine zAO (b:=decide (i1 < (List.length p0.2.1 : Int))) J (fun hc5=>?_) (fun hc5=>?_)
 ·obtain ⟨q,hr,rfl⟩:=zA7 hc5 ho
  obtain ⟨x6,e7,hr⟩:=zA hr
  refine sk<|an<|sq<|bl<|sq<|rg<|V (zAQ (t:=Y4) (e:=x6) (undX 52 J) (szX 54 J) J J e7)<|V vlR<|O oa<|O os<|nl<|an<|sq<|rg<|V vfp<|V vlp<|V vm<|V veq<|nl<|an<|?_
  refine cnd (fun hc8 hr=>?_) (fun hc8 hr=>?_)
  ·refine sq<|rg<|V va<|?_
   obtain rfl:=Option.some.inj hr
   exact nl<|an<|cr<|zAE (zAC (⟨rfl,(zAA hX [] 4 J J wS trivial)⟩))
  refine sk<|bn<|an<|rg<|V vad<|V vm<|?_
  obtain rfl:=Option.some.inj hr
  exact zAJ ((zAA hX [] 4 J J wS trivial))
 obtain rfl:=zA8 hc5 ho
 exact zAH (zAF (⟨rfl,(zAA hX [] 4 J J wS trivial)⟩))
theorem f83_runs {p0_0:ZR}{r:Unit}(hr:f83 p0_0=some r) : Runs Tryz.prog 83 [.ptr 0 0] [.tr E80 (some p0_0)] (fun q Hq=>q=[.ptr 1 0]∧Hq=[.tr E80 (some p0_0),.tr E80 (some p0_0)]):=by
 refine zAW Tryz.func83 Tryz.ntmps83 J (rs:=[.tmp 2]) J J fun w0 X hX=>?_
 refine sq<|rg<|V va<|nl<|an<|sq<|rg<|V vm<|V vnp<|?_
 refine zAG (zAd (i:=0) [.sl Y2 p0_0.1,.osl 1,.osl 2,.i p0_0.2.2.2.1,.i p0_0.2.2.2.2] [.sl 54 Y4 p0_0.2.1,.sl 42 Y5 p0_0.2.2.1] J J J J)<|V vlP<|O oa<|O os<|nl<|an<|sq<|rg<|V vm<|V vnp<|V vfp<|V vlp<|?_
 obtain ⟨h1,hr⟩:=zAN hr
 refine zAK (zCk (t:=Y4) J J app52 J J J h1 J ?_)
 refine V vfp<|O os<|nl<|an<|sq<|rg<|V vm<|V vnp<|V vfp<|V vlp<|?_
 obtain ⟨h2,hr⟩:=zAN hr
 refine zAK (zCk (t:=Y5) J J app78 J J J h2 J ?_)
 refine V vfp<|O os<|nl<|an<|sq<|rg<|V va<|?_
 obtain rfl:=Option.some.inj hr
 exact nl<|an<|cr<|zAe (l':=[(2,.ptr 1 0)]) (Hs:=[(0,.tr E80 (some p0_0)),(1,.tr E80 (some p0_0))]) (n:=2) (Wk.trans (pk (i:=0) (e:=F80) (js:=[1,2]) p0_0) (Wk.trans (pk (i:=3) (e:=F80) (js:=[4,5]) p0_0) (zAA hX [0,3] 4 J J wS wO))) J J J ⟨rfl,trivial⟩
theorem f84_runs {p0_0:ZR}{p1:Str}{p2:List Int}{r:Unit}(hr:f84 p0_0 p1 p2=some r) : Runs Tryz.prog 84 [.ptr 0 0,.str p1,.sl .i p2] [.tr E80 (some p0_0)] (fun q Hq=>q=[]∧Hq=[.tr E80 (some (p0_0.1,p0_0.2.1,(p0_0.2.2.1++[(p0_0.2.2.2.2,p1,p2)]),p0_0.2.2.2.1,(w64 (p0_0.2.2.2.2+1))))]):=by
 refine zAW Tryz.func84 Tryz.ntmps84 J (rs:=[]) J J fun w0 X hX=>?_
 refine sq<|zAY (zAd (i:=0) [.sl Y2 p0_0.1,.osl 1,.osl 2,.i p0_0.2.2.2.1,.i p0_0.2.2.2.2] [.sl 54 Y4 p0_0.2.1,.sl 42 Y5 p0_0.2.2.1] J J J J)<|?_
 obtain ⟨h1,hr⟩:=zAN hr
 obtain ⟨h2,hr⟩:=zAN hr
 refine zCV (st2:=⟨[(0,.ptr 0 0),(20,.osl 3)],[(0,.var 80 [.sl Y2 p0_0.1,.osl 1,.osl 2,.i p0_0.2.2.2.1,.i p0_0.2.2.2.2]),(1,.sl 54 Y4 p0_0.2.1),(2,.dead),(3,.sl 42 Y5 (p0_0.2.2.1++[(p0_0.2.2.2.2,p1,p2)]))],4⟩) 14 [0] [0,2,3,4,14,6,7,8,12,12,11,14,13,14] [[],[],[],[],[],[],[],[],[],[],[],[],[],[]] mixed [0,1,2] [(true,.ptr 0 0),(true,.ptr 0 0),(true,.ptr 0 0),(true,.ptr 0 2),(true,.osl 2),(true,.ptr 0 0),(true,.ptr 0 0),(true,.ptr 0 4),(true,.i p0_0.2.2.2.2),(true,.str p1),(true,.sl .i p2),(true,.sl .i p2),(true,.agg [.i p0_0.2.2.2.2,.str p1,.sl .i p2]),(true,.sl Y5 [(p0_0.2.2.2.2,p1,p2)])] [[],[],[1],[2],[3],[],[5],[6],[7],[],[],[10],[8,9,11],[12]] [4,13] [0,20] rfl rfl rfl rfl rfl rfl rfl rfl rfl rfl rfl rfl ⟨oB wm,oB wm,oB wnp,oB wfp,oB wlp,oB wm,oB wnp,oB wfp,oB wlp,oB wm,oB wm,zAr rfl (fun hg=>zAD ⟨rfl,trivial⟩) (fun hg=>av_append_nilF (t:=.i) rfl rfl zCt rfl rfl h1 rfl),zAr rfl (fun hg=>zAD ⟨rfl,rfl,rfl,trivial⟩) (fun hg=>zAs (qs:=[(0,[.i p0_0.2.2.2.2]),(1,[.str p1]),(2,[.sl .i p2])]) (cs:=[.i p0_0.2.2.2.2,.str p1,.sl .i p2]) bt42 rfl rfl rfl),zAr rfl (fun hg=>zAD ⟨rfl,trivial⟩) (fun hg=>zAM (t:=Y5) (qs:=[(0,[.i p0_0.2.2.2.2,.str p1,.sl .i p2])]) (ys:=[(p0_0.2.2.2.2,p1,p2)]) bs78 rfl rfl rfl rfl rfl rfl rfl rfl),trivial⟩ (zAD ⟨rfl,rfl,trivial⟩) rfl ⟨(fun X' o ho=>by obtain rfl:=Option.some.inj ho; exact zAg rfl),trivial⟩ rfl (fun X'=>zAh rfl rfl app78 rfl rfl rfl h2 rfl ⟨⟨rfl,rfl,trivial⟩,⟨rfl,rfl,rfl,rfl,trivial⟩,rfl⟩) ?_
 refine V vnp<|V vfp<|O os<|nl<|an<|rg<|V vm<|V vnp<|V vfp<|V vlp<|V vad<|V vnp<|V vfp<|O os<|?_
 obtain rfl:=Option.some.inj hr
 exact zAJ (zCz (zAe (l':=[]) (Hs:=[(0,.tr E80 (some (p0_0.1,p0_0.2.1,(p0_0.2.2.1++[(p0_0.2.2.2.2,p1,p2)]),p0_0.2.2.2.1,(w64 (p0_0.2.2.2.2+1)))))]) (n:=1) (Wk.trans (pk (i:=0) (e:=F80) (js:=[1,3]) (p0_0.1,p0_0.2.1,(p0_0.2.2.1++[(p0_0.2.2.2.2,p1,p2)]),p0_0.2.2.2.1,(w64 (p0_0.2.2.2.2+1)))) (zAA hX [0] 4 J J trivial wO)) J J J trivial))
theorem f113_runs {p0:ZR}{p1:Int}{p2:Str}{p3:Int}{r:Int}(hr:f113 p0 p1 p2 p3=some r) : zBb Tryz.prog 113 [.rp (R80 p0),.i p1,.str p2,.i p3] [.i r]:=by
 refine zAW Tryz.func113 Tryz.ntmps113 J (rs:=[.tmp 8]) J J fun w0 X hX=>?_
 obtain ⟨o6,e7,hr⟩:=zA hr
 refine sq<|rg<|V va<|nl<|an<|sq<|rg<|V va<|nl<|an<|sq<|sq<|rg<|V vm<|V vnr<|V vfr<|V vlr<|V vnl<|V vm<|nl<|an<|bl<|?_
 refine zAb (t:=15) J (fun hl=>?_)
 refine zAI (List.length p0.2.2.1 : Int) (f113_b0 p0 p1 p2 p3) (fun p=>match p with | (i1,s2)=>(⟨[(1,.i p1),(2,.str p2),(3,.i p3),(8,.i 0),(9,.i s2),(15,.sl Y5 p0.2.2.1),(16,.i (List.length p0.2.2.1 : Int)),(17,.i i1)],[],0⟩ : AS)) (fun o e st=>match o with | .inr _=>False | .inl s2=>e=.exit 0∧Wk X st ⟨[(8,.i 0),(9,.i s2)],[],0⟩) (zAf hl) e7 (by exact zAA hX [] 4 J J wS trivial) ?_ ?_
 ·intro e st hx
  rcases o6 with s2 | _
  ·obtain ⟨rfl,hw⟩:=hx
   refine bh<|an<|(zAY hw)<|sq<|rg<|V vm<|V va<|?_
   obtain rfl:=Option.some.inj hr
   exact nl<|an<|cr<|zAk (l':=[(8,.i s2)]) (zAA hX [] 4 J J wS trivial) J ⟨rfl,trivial⟩
  exact hx.elim
 rintro i1 s2 o ho
 refine sq<|rg<|V vls<|nl<|an<|sq<|?_
 refine zAO (b:=decide (i1 < (List.length p0.2.2.1 : Int))) J (fun hc8=>?_) (fun hc8=>?_)
 ·obtain ⟨q,hr,rfl⟩:=zA7 hc8 ho
  obtain ⟨o10,e11,hr⟩:=zA hr
  refine sk<|an<|?_
  refine zAy (S:=Int) (R:=Unit) (fun s=>match s with | s9=>(⟨[(1,.i p1),(2,.str p2),(3,.i p3),(8,.i 0),(9,.i s9),(15,.sl Y5 p0.2.2.1),(16,.i (List.length p0.2.2.1 : Int)),(17,.i i1)],[],0⟩ : AS)) (fun _ _ _=>False) e11 (fun hr=>?_) ?_ ?_
  ·obtain ⟨x12,e13,hr⟩:=zA hr
   refine bl<|sq<|rg<|V (zAQ (t:=Y5) (e:=x12) (undX 78 J) (szX 42 J) J J e13)<|V vlR<|O oa<|O os<|nl<|an<|sq<|?_
   obtain ⟨h14,hr⟩:=zAN hr
   refine zAa [1,2,3,8,9,15,16,17,11] [(true,.ptr 0 1),(true,.str x12.2.1),(true,.str p2),(true,.bool (decide (x12.2.1=p2))),(true,.bool (decide (x12.2.1=p2))),(decide (x12.2.1=p2),.ptr 0 2),(decide (x12.2.1=p2),.sl .i x12.2.2),(decide (x12.2.1=p2),.i p3),(decide (x12.2.1=p2),.rp [.i ((ix x12.2.2 p3).getD default)]),(decide (x12.2.1=p2),.i ((ix x12.2.2 p3).getD default)),(decide (x12.2.1=p2),.i p1),(decide (x12.2.1=p2),.bool (decide (((ix x12.2.2 p3).getD default)=p1))),(true,.bool ((decide (x12.2.1=p2))&&(decide (((ix x12.2.2 p3).getD default)=p1))))] [[],[0],[],[1,2],[3],[4],[5,4],[4],[6,7,4],[8,4],[4],[9,10,4],[11,4]] [12] J J J J J ⟨oB wfp,oB wlp,oB wm,oB wes,oB wm,oB wfp,oB wlp,oB wm,zAr ⟨rfl,rfl,rfl,_,rfl,rfl⟩ (fun hg=>zAD ⟨hg,hg,rfl,trivial⟩) (fun hg=>zAQ (t:=.i) (e:=((ix x12.2.2 p3).getD default)) (undX 33 J) (szX 3 J) J J (zAz h14 hg)),oB wlr,oB wm,oB weq,zBe,trivial⟩ (zAD ⟨rfl,trivial⟩) ?_
   refine an<|?_
   refine cnd (fun hc15 hr=>?_) (fun hc15 hr=>?_)
   ·refine rg<|V vm<|V vad<|V va<|?_
    obtain rfl:=Option.some.inj hr
    exact zAJ (zAS ((zAA hX [] 4 J J wS trivial)))
   obtain rfl:=Option.some.inj hr
   exact zAv (zAS ((zAA hX [] 4 J J wS trivial)))
  ·rintro s9 rfl
   refine rg<|V vad<|V vm<|?_
   obtain rfl:=Option.some.inj hr
   exact zAJ ((zAA hX [] 4 J J wS trivial))
  exact fun r h e st hne hx=>hx.elim
 obtain rfl:=zA8 hc8 ho
 exact zAH (zAF (⟨rfl,(zAA hX [] 4 J J wS trivial)⟩))
theorem ent113 : Enters Tryz.prog 113:=enters_of Tryz.func113 (by kernel_rfl) rfl
theorem ent81 : Enters Tryz.prog 81:=enters_of Tryz.func81 (by kernel_rfl) rfl
theorem ent82 : Enters Tryz.prog 82:=enters_of Tryz.func82 (by kernel_rfl) rfl
theorem ent83 : Enters Tryz.prog 83:=enters_of Tryz.func83 (by kernel_rfl) rfl
theorem ent84 : Enters Tryz.prog 84:=enters_of Tryz.func84 (by kernel_rfl) rfl
theorem ent85 : Enters Tryz.prog 85:=enters_of Tryz.func85 (by kernel_rfl) rfl
theorem ent55 : Enters Tryz.prog 55:=enters_of Tryz.func55 (by kernel_rfl) rfl
theorem zB9 : Enters Tryz.prog 15:=enters_of Tryz.func15 (by kernel_rfl) rfl
theorem ent36 : Enters Tryz.prog 36:=enters_of Tryz.func36 (by kernel_rfl) rfl
theorem ent86 : Enters Tryz.prog 86:=enters_of Tryz.func86 (by kernel_rfl) rfl
theorem f85_runs {p0:ZR}{r:Bool}(hr:f85 p0=some r) : zBb Tryz.prog 85 [.rp (R80 p0)] [.bool r]:=by
 refine zAW Tryz.func85 Tryz.ntmps85 J (rs:=[.tmp 2]) J J fun w0 X hX=>?_
 obtain ⟨o3,e4,hr⟩:=zA hr
 refine sq<|rg<|V va<|nl<|an<|sq<|sq<|rg<|V vm<|V vnr<|V vfr<|V vlr<|V vnl<|V vm<|nl<|an<|bl<|?_
 refine zAb (t:=12) J (fun hl=>?_)
 refine zAI (List.length p0.1 : Int) (f85_b0 p0) (fun p=>match p with | (i1,())=>(⟨[(0,.rp (R80 p0)),(2,.bool false),(12,.sl Y2 p0.1),(13,.i (List.length p0.1 : Int)),(14,.i i1)],[],0⟩ : AS)) (fun o e st=>match o with | .inl ()=>e=.exit 0∧Wk X st ⟨[(2,.bool false)],[],0⟩ | .inr ()=>e=.ret∧Wk X st ⟨[(2,.bool true)],[],0⟩) (zAf hl) e4 (by exact zAA hX [] 4 J J wS trivial) ?_ ?_
 ·intro e st hx
  rcases o3 with _ | _
  ·obtain ⟨rfl,hw⟩:=hx
   refine bh<|an<|(zAY hw)<|sq<|rg<|V va<|?_
   obtain rfl:=Option.some.inj hr
   exact nl<|an<|cr<|zAk (l':=[(2,.bool false)]) (zAA hX [] 4 J J wS trivial) J ⟨rfl,trivial⟩
  obtain ⟨rfl,hw⟩:=hx
  obtain rfl:=Option.some.inj hr
  exact zAE (zAC (zAk (l':=[(2,.bool true)]) (Wk.trans hw (zAA hX [] 4 J J wS trivial)) J ⟨rfl,trivial⟩))
 rintro i1 _ o ho
 refine sq<|rg<|V vls<|nl<|an<|sq<|?_
 refine zAO (b:=decide (i1 < (List.length p0.1 : Int))) J (fun hc5=>?_) (fun hc5=>?_)
 ·obtain ⟨q,hr,rfl⟩:=zA7 hc5 ho
  obtain ⟨x6,e7,hr⟩:=zA hr
  obtain ⟨o10,e11,hr⟩:=zA hr
  refine sk<|an<|sq<|bl<|sq<|rg<|V (zAQ (t:=Y2) (e:=x6) (undX 22 J) (szX 47 J) J J e7)<|V vlR<|O oa<|O os<|nl<|an<|sq<|rg<|V vfp<|V vlp<|V vnl<|V vm<|nl<|an<|bl<|?_
  refine zAb (t:=19) J (fun hl=>?_)
  refine zAI (List.length x6.2 : Int) (f85_b1 p0 x6) (fun p=>match p with | (i8,())=>(⟨[(0,.rp (R80 p0)),(2,.bool false),(4,.ptr 0 0),(12,.sl Y2 p0.1),(13,.i (List.length p0.1 : Int)),(14,.i i1),(19,.sl Y1 x6.2),(20,.i (List.length x6.2 : Int)),(21,.i i8)],[(0,.var 47 [.str x6.1,.sl Y1 x6.2])],1⟩ : AS)) (fun o e st=>match o with | .inl ()=>e=.exit 2∧Wk X st ⟨[(0,.rp (R80 p0)),(2,.bool false),(12,.sl Y2 p0.1),(13,.i (List.length p0.1 : Int)),(14,.i i1)],[],0⟩ | .inr ()=>e=.ret∧Wk X st ⟨[(2,.bool true)],[],0⟩) (zAf hl) e11 (by exact zAA hX [0] 4 J J wS wO) ?_ ?_
  ·intro e st hx
   rcases o10 with _ | _
   ·obtain ⟨rfl,hw⟩:=hx
    refine bh<|bn<|an<|(zAY hw)<|rg<|V vad<|V vm<|?_
    obtain rfl:=Option.some.inj hr
    exact zAJ ((zAA hX [] 4 J J wS trivial))
   obtain ⟨rfl,hw⟩:=hx
   obtain rfl:=Option.some.inj hr
   exact zAE (zAE (zAC (⟨rfl,(Wk.trans hw (zAA hX [] 4 J J wS trivial))⟩)))
  rintro i8 _ o ho
  refine sq<|rg<|V vls<|nl<|an<|sq<|?_
  refine zAO (b:=decide (i8 < (List.length x6.2 : Int))) J (fun hc12=>?_) (fun hc12=>?_)
  ·obtain ⟨q,hr,rfl⟩:=zA7 hc12 ho
   obtain ⟨x13,e14,hr⟩:=zA hr
   obtain ⟨o17,e18,hr⟩:=zA hr
   refine sk<|an<|sq<|bl<|sq<|rg<|V vm<|?_
   refine V (zAQ (t:=Y1) (e:=x13) (undX 45 J) (szX 49 J) J J e14)<|V vlR<|O oa<|V va<|O os<|nl<|an<|sq<|rg<|V vm<|V vnr<|V vfr<|V vlr<|V vnl<|V vm<|nl<|an<|bl<|?_
   refine zAb (t:=29) J (fun hl=>?_)
   refine zAI (List.length p0.2.1 : Int) (f85_b2 p0 x6 i8 x13) (fun p=>match p with | (i15,())=>(⟨[(0,.rp (R80 p0)),(2,.bool false),(4,.ptr 0 0),(5,.i i8),(6,.ptr 1 0),(12,.sl Y2 p0.1),(13,.i (List.length p0.1 : Int)),(14,.i i1),(19,.sl Y1 x6.2),(20,.i (List.length x6.2 : Int)),(21,.i i8),(29,.sl Y4 p0.2.1),(30,.i (List.length p0.2.1 : Int)),(31,.i i15)],[(0,.var 47 [.str x6.1,.sl Y1 x6.2]),(1,.var 49 [.str x13.1,.i x13.2.1,.i x13.2.2.1,.i x13.2.2.2.1,.i x13.2.2.2.2.1,.i x13.2.2.2.2.2])],2⟩ : AS)) (fun o e st=>match o with | .inl ()=>e=.exit 4∧Wk X st ⟨[(0,.rp (R80 p0)),(2,.bool false),(4,.ptr 0 0),(12,.sl Y2 p0.1),(13,.i (List.length p0.1 : Int)),(14,.i i1),(19,.sl Y1 x6.2),(20,.i (List.length x6.2 : Int)),(21,.i i8)],[(0,.var 47 [.str x6.1,.sl Y1 x6.2])],1⟩ | .inr ()=>e=.ret∧Wk X st ⟨[(2,.bool true)],[],0⟩) (zAf hl) e18 (by exact zAA hX [0,1] 4 J J wS wO) ?_ ?_
   ·intro e st hx
    rcases o17 with _ | _
    ·obtain ⟨rfl,hw⟩:=hx
     refine bh<|bn<|an<|(zAY hw)<|rg<|V vad<|V vm<|?_
     obtain rfl:=Option.some.inj hr
     exact zAJ ((zAA hX [0] 4 J J wS wO))
    obtain ⟨rfl,hw⟩:=hx
    obtain rfl:=Option.some.inj hr
    exact zAE (zAE (zAC (⟨rfl,(Wk.trans hw (zAA hX [] 4 J J wS trivial))⟩)))
   rintro i15 _ o ho
   refine sq<|rg<|V vls<|nl<|an<|sq<|?_
   refine zAO (b:=decide (i15 < (List.length p0.2.1 : Int))) J (fun hc19=>?_) (fun hc19=>?_)
   ·obtain ⟨q,hr,rfl⟩:=zA7 hc19 ho
    obtain ⟨x20,e21,hr⟩:=zA hr
    refine sk<|an<|sq<|bl<|sq<|rg<|V (zAQ (t:=Y4) (e:=x20) (undX 52 J) (szX 54 J) J J e21)<|V vlR<|O oa<|O os<|nl<|an<|sq<|?_
    obtain ⟨h22,hr⟩:=zAN hr
    refine zBE mixed [0,2,4,5,6,12,13,14,19,20,21,29,30,31,8] [(true,.ptr 1 2),(true,.i x13.2.2.1),(true,.bool (decide (0 < x13.2.2.1))),(true,.bool (decide (0 < x13.2.2.1))),(decide (0 < x13.2.2.1),.rp (R80 p0)),(decide (0 < x13.2.2.1),.ptr 2 0),(decide (0 < x13.2.2.1),.i x20.1),(decide (0 < x13.2.2.1),.ptr 0 0),(decide (0 < x13.2.2.1),.str x6.1),(decide (0 < x13.2.2.1),.i i8),(decide (0 < x13.2.2.1),.i ((f113 p0 x20.1 x6.1 i8).getD default)),(decide (0 < x13.2.2.1),.ptr 1 2),(decide (0 < x13.2.2.1),.i x13.2.2.1),(decide (0 < x13.2.2.1),.bool (decide (x13.2.2.1 < ((f113 p0 x20.1 x6.1 i8).getD default)))),(true,.bool ((decide (0 < x13.2.2.1))&&(decide (x13.2.2.1 < ((f113 p0 x20.1 x6.1 i8).getD default)))))] [[],[0],[1],[2],[3],[3],[5,3],[3],[7,3],[3],[4,6,8,9,3],[3],[11,3],[10,12,3],[13,3]] [14] J J J J J ⟨oB wfp,oB wlp,oB wgt,oB wm,oB wm,oB wfp,oB wlp,oB wfp,oB wlp,oB wm,zAr ⟨rfl,rfl,rfl,_,rfl,rfl⟩ (fun hg=>zAD ⟨hg,hg,hg,hg,rfl,trivial⟩) (fun hg=>zAV (f113_runs (zAz h22 hg)).x ent113 J J),oB wfp,oB wlp,oB wgt,zBe,trivial⟩ (zAD ⟨rfl,trivial⟩) ?_
    refine an<|?_
    refine cnd (fun hc23 hr=>?_) (fun hc23 hr=>?_)
    ·refine sq<|rg<|V va<|?_
     obtain rfl:=Option.some.inj hr
     exact nl<|an<|cr<|zAE (zAC (⟨rfl,(zAA hX [] 4 J J wS trivial)⟩))
    refine sk<|bn<|an<|rg<|V vad<|V vm<|?_
    obtain rfl:=Option.some.inj hr
    exact zAJ ((zAA hX [0,1] 4 J J wS wO))
   obtain rfl:=zA8 hc19 ho
   exact zAH (zAF (⟨rfl,(zAA hX [0] 4 J J wS wO)⟩))
  obtain rfl:=zA8 hc12 ho
  exact zAH (zAF (⟨rfl,(zAA hX [] 4 J J wS trivial)⟩))
 obtain rfl:=zA8 hc5 ho
 exact zAH (zAF (⟨rfl,(zAA hX [] 4 J J wS trivial)⟩))
theorem f32_runs {p0_0:ZR}{p1:Str}{p2:List Int}{r:Int×Int×(ZR)}(hr:f32 p0_0 p1 p2=some r) : Runs Tryz.prog 32 [.ptr 0 0,.str p1,.sl .i p2] [.tr E80 (some p0_0)] (fun q Hq=>q=[.i r.1,.i r.2.1]∧Hq=[.tr E80 (some r.2.2)]):=by
 refine zAW Tryz.func32 Tryz.ntmps32 J (rs:=[.tmp 6,.tmp 7]) J J fun w0 X hX=>?_
 obtain ⟨x2,e3,hr⟩:=zA hr
 refine sq<|rg<|V va<|V va<|nl<|an<|sq<|sq<|rg<|V vm<|?_
 refine V (zAV (f80_runs e3).x ent80 J J)<|V vno<|nl<|an<|?_
 refine cnd (fun hc4 hr=>?_) (fun hc4 hr=>?_)
 ·refine sq<|rg<|V va<|V va<|?_
  obtain rfl:=Option.some.inj hr
  exact nl<|an<|cr<|zAC (zAe (l':=[(6,.i 0),(7,.i 1)]) (Hs:=[(0,.tr E80 (some p0_0))]) (n:=1) (zAA hX [0] 4 J J wS wO) J J J ⟨rfl,rfl,trivial⟩)
 obtain ⟨o7,e8,hr⟩:=zA hr
 refine sk<|an<|sq<|sq<|rg<|V vm<|V vnl<|V vm<|nl<|an<|bl<|?_
 refine zAb (t:=2) J (fun hl=>?_)
 refine zAI (List.length p2 : Int) (f32_b0 p2) (fun p=>match p with | (i5,())=>(⟨[(0,.ptr 0 0),(1,.str p1),(2,.sl .i p2),(6,.i 0),(7,.i 0),(18,.sl .i p2),(19,.i (List.length p2 : Int)),(20,.i i5)],[(0,.tr E80 (some p0_0))],1⟩ : AS)) (fun o e st=>match o with | .inl ()=>e=.exit 0∧Wk X st ⟨[(0,.ptr 0 0),(1,.str p1),(2,.sl .i p2),(6,.i 0),(7,.i 0)],[(0,.tr E80 (some p0_0))],1⟩ | .inr ()=>e=.ret∧Wk X st ⟨[(6,.i 0),(7,.i 7)],[(0,.tr E80 (some p0_0))],1⟩) (zAf hl) e8 (by exact zAA hX [0] 4 J J wS wO) ?_ ?_
 ·intro e st hx
  rcases o7 with _ | _
  ·obtain ⟨rfl,hw⟩:=hx
   obtain ⟨x9,e10,hr⟩:=zA hr
   refine bh<|an<|(zAY hw)<|sq<|rg<|V vm<|V vm<|?_
   refine zAK (zAP (σ:=[0]) (as':=[.ptr 0 0,.str p1]) (f81o_runs e10).x ent81 J ⟨cv0,cv0,trivial⟩ J J J ?_)
   refine V vm<|V vx<|V vx<|O oa<|O os<|V va<|nl<|an<|sq<|sq<|rg<|V vm<|V vno<|nl<|an<|?_
   refine cnd (fun hc11 hr=>?_) (fun hc11 hr=>?_)
   ·refine sq<|rg<|V va<|V va<|?_
    obtain rfl:=Option.some.inj hr
    exact nl<|an<|cr<|zAC (zAe (l':=[(6,.i 0),(7,.i 5)]) (Hs:=[(0,.tr E80 (some p0_0))]) (n:=1) (zAA hX [0] 4 J J wS wO) J J J ⟨rfl,rfl,trivial⟩)
   obtain ⟨o14,e15,hr⟩:=zA hr
   refine sk<|an<|sq<|sq<|rg<|V vm<|V vnl<|V vm<|nl<|an<|bl<|?_
   refine zAb (t:=2) J (fun hl=>?_)
   refine zAI (List.length p2 : Int) (f32_b1 p0_0 p2) (fun p=>match p with | (i12,())=>(⟨[(0,.ptr 0 0),(1,.str p1),(2,.sl .i p2),(6,.i 0),(7,.i 0),(10,.ptr 1 0),(35,.sl .i p2),(36,.i (List.length p2 : Int)),(37,.i i12)],[(0,.tr E80 (some p0_0)),(1,.var 47 [.str x9.1.1,.sl Y1 x9.1.2])],2⟩ : AS)) (fun o e st=>match o with | .inl ()=>e=.exit 2∧Wk X st ⟨[(0,.ptr 0 0),(1,.str p1),(2,.sl .i p2),(6,.i 0),(7,.i 0),(10,.ptr 1 0)],[(0,.tr E80 (some p0_0)),(1,.var 47 [.str x9.1.1,.sl Y1 x9.1.2])],2⟩ | .inr ()=>e=.ret∧Wk X st ⟨[(6,.i 0),(7,.i 8)],[(0,.tr E80 (some p0_0))],1⟩) (zAf hl) e15 (by exact zAA hX [0,1] 4 J J wS wO) ?_ ?_
   ·intro e st hx
    rcases o14 with _ | _
    ·obtain ⟨rfl,hw⟩:=hx
     refine bh<|an<|(zAY hw)<|sq<|sq<|rg<|V vm<|V vnl<|V vfp<|V vlp<|V vnl<|V vne<|nl<|an<|?_
     refine cnd (fun hc16 hr=>?_) (fun hc16 hr=>?_)
     ·refine sq<|rg<|V va<|V va<|?_
      obtain rfl:=Option.some.inj hr
      exact nl<|an<|cr<|zAC (zAe (l':=[(6,.i 0),(7,.i 11)]) (Hs:=[(0,.tr E80 (some p0_0))]) (n:=1) (zAA hX [0] 4 J J wS wO) J J J ⟨rfl,rfl,trivial⟩)
     obtain ⟨x17,e18,hr⟩:=zA hr
     refine sk<|an<|sq<|rg<|V vm<|?_
     refine zAK (zAP (σ:=[0]) (as':=[.ptr 0 0]) (f83_runs e18).x ent83 J ⟨cv0,trivial⟩ J J J ?_)
     obtain ⟨x19,e20,hr⟩:=zA hr
     refine V va<|nl<|an<|sq<|rg<|V vm<|V vm<|V vm<|?_
     refine zAK (zAP (σ:=[2]) (as':=[.ptr 2 0,.str p1,.sl .i p2]) (f84_runs e20).x ent84 J ⟨cv0,cv0,cv0,trivial⟩ J J J ?_)
     obtain ⟨x21,e22,hr⟩:=zA hr
     refine nl<|an<|sq<|bl<|sq<|rg<|V vm<|?_
     refine zAG (zAd (i:=2) [.sl Y2 p0_0.1,.osl 3,.osl 4,.i p0_0.2.2.2.1,.i (w64 (p0_0.2.2.2.2+1))] [.sl 54 Y4 p0_0.2.1,.sl 42 Y5 (p0_0.2.2.1++[(p0_0.2.2.2.2,p1,p2)])] J J J J)<|V (zAj (as':=[.ptr 2 0]) (f85_runs e22).x ent85 J ⟨cv0,trivial⟩ J J)<|V va<|nl<|an<|?_
     refine cnd (fun hc23 hr=>?_) (fun hc23 hr=>?_)
     ·refine sq<|rg<|V va<|V va<|?_
      obtain rfl:=Option.some.inj hr
      exact nl<|an<|cr<|zAE (zAC (zAe (l':=[(6,.i 0),(7,.i 9)]) (Hs:=[(0,.tr E80 (some p0_0))]) (n:=1) (zAA hX [0] 4 J J wS wO) J J J ⟨rfl,rfl,trivial⟩))
     refine sq<|rg<|V vm<|V vnp<|V vfp<|?_
     refine zAG (zAd (i:=0) [.sl Y2 p0_0.1,.osl 5,.osl 6,.i p0_0.2.2.2.1,.i p0_0.2.2.2.2] [.sl 54 Y4 p0_0.2.1,.sl 42 Y5 p0_0.2.2.1] J J J J)<|V vlp<|V vnL<|V vge<|V va<|nl<|an<|?_
     refine cnd (fun hc24 hr=>?_) (fun hc24 hr=>?_)
     ·refine sq<|rg<|V va<|V va<|?_
      obtain rfl:=Option.some.inj hr
      exact nl<|an<|cr<|zAE (zAC (zAe (l':=[(6,.i 0),(7,.i 4)]) (Hs:=[(0,.tr E80 (some p0_0))]) (n:=1) (Wk.trans (pk (i:=0) (e:=F80) (js:=[5,6]) p0_0) (zAA hX [0] 4 J J wS wO)) J J J ⟨rfl,rfl,trivial⟩))
     refine sk<|bn<|an<|sq<|rg<|V vm<|V vm<|V vnp<|V vlP<|V vnp<|O os<|nl<|an<|sq<|rg<|V vm<|V vnp<|V vfp<|V vlp<|V vsu<|V va<|V va<|?_
     obtain rfl:=Option.some.inj hr
     exact nl<|an<|cr<|zAe (l':=[(6,.i (w64 ((w64 (p0_0.2.2.2.2+1)) - 1))),(7,.i 0)]) (Hs:=[(0,.tr E80 (some (p0_0.1,p0_0.2.1,(p0_0.2.2.1++[(p0_0.2.2.2.2,p1,p2)]),p0_0.2.2.2.1,(w64 (p0_0.2.2.2.2+1)))))]) (n:=1) (Wk.trans (pk (i:=0) (e:=F80) (js:=[3,4]) (p0_0.1,p0_0.2.1,(p0_0.2.2.1++[(p0_0.2.2.2.2,p1,p2)]),p0_0.2.2.2.1,(w64 (p0_0.2.2.2.2+1)))) (zAA hX [0] 4 J J wS wO)) J J J ⟨rfl,rfl,trivial⟩
    obtain ⟨rfl,hw⟩:=hx
    obtain rfl:=Option.some.inj hr
    exact zAE (zAC (zAe (l':=[(6,.i 0),(7,.i 8)]) (Hs:=[(0,.tr E80 (some p0_0))]) (n:=1) (Wk.trans hw (zAA hX [0] 4 J J wS wO)) J J J ⟨rfl,rfl,trivial⟩))
   rintro i12 _ o ho
   refine sq<|rg<|V vls<|nl<|an<|sq<|?_
   refine zAO (b:=decide (i12 < (List.length p2 : Int))) J (fun hc25=>?_) (fun hc25=>?_)
   ·obtain ⟨q,hr,rfl⟩:=zA7 hc25 ho
    obtain ⟨x26,e27,hr⟩:=zA hr
    obtain ⟨x28,e29,hr⟩:=zA hr
    refine sk<|an<|sq<|bl<|sq<|rg<|V (zAQ (t:=.i) (e:=x26) (undX 33 J) (szX 3 J) J J e27)<|V vlr<|V va<|nl<|an<|sq<|rg<|V vm<|V vm<|?_
    refine zAG (zAd (i:=0) [.sl Y2 p0_0.1,.osl 2,.osl 3,.i p0_0.2.2.2.1,.i p0_0.2.2.2.2] [.sl 54 Y4 p0_0.2.1,.sl 42 Y5 p0_0.2.2.1] J J J J)<|V (zAj (as':=[.ptr 0 0,.i x26]) (f82_runs e29).x ent82 J ⟨cv0,cv0,trivial⟩ J J)<|V vno<|nl<|an<|?_
    refine cnd (fun hc30 hr=>?_) (fun hc30 hr=>?_)
    ·refine sq<|rg<|V va<|V va<|?_
     obtain rfl:=Option.some.inj hr
     exact nl<|an<|cr<|zAE (zAC (⟨rfl,(Wk.trans (pk (i:=0) (e:=F80) (js:=[2,3]) p0_0) (zAA hX [0] 4 J J wS wO))⟩))
    refine sk<|bn<|an<|rg<|V vad<|V vm<|?_
    obtain rfl:=Option.some.inj hr
    exact zAJ ((Wk.trans (pk (i:=0) (e:=F80) (js:=[2,3]) p0_0) (zAA hX [0,1] 4 J J wS wO)))
   obtain rfl:=zA8 hc25 ho
   exact zAH (zAF (⟨rfl,(zAA hX [0,1] 4 J J wS wO)⟩))
  obtain ⟨rfl,hw⟩:=hx
  obtain rfl:=Option.some.inj hr
  exact zAE (zAC (zAe (l':=[(6,.i 0),(7,.i 7)]) (Hs:=[(0,.tr E80 (some p0_0))]) (n:=1) (Wk.trans hw (zAA hX [0] 4 J J wS wO)) J J J ⟨rfl,rfl,trivial⟩))
 rintro i5 _ o ho
 refine sq<|rg<|V vls<|nl<|an<|sq<|?_
 refine zAO (b:=decide (i5 < (List.length p2 : Int))) J (fun hc31=>?_) (fun hc31=>?_)
 ·obtain ⟨q,hr,rfl⟩:=zA7 hc31 ho
  obtain ⟨x32,e33,hr⟩:=zA hr
  refine sk<|an<|sq<|bl<|sq<|rg<|V (zAQ (t:=.i) (e:=x32) (undX 33 J) (szX 3 J) J J e33)<|V vlr<|V va<|nl<|an<|sq<|rg<|V vm<|V vls<|nl<|an<|?_
  refine cnd (fun hc34 hr=>?_) (fun hc34 hr=>?_)
  ·refine sq<|rg<|V va<|V va<|?_
   obtain rfl:=Option.some.inj hr
   exact nl<|an<|cr<|zAE (zAC (⟨rfl,(zAA hX [0] 4 J J wS wO)⟩))
  refine sk<|bn<|an<|rg<|V vad<|V vm<|?_
  obtain rfl:=Option.some.inj hr
  exact zAJ ((zAA hX [0] 4 J J wS wO))
 obtain rfl:=zA8 hc31 ho
 exact zAH (zAF (⟨rfl,(zAA hX [0] 4 J J wS wO)⟩))
theorem f55_runs {p0_0:ZW}{p1:Int}{r:(Int×Str×List Int)×Int}(hr:f55 p0_0 p1=some r) : Runs Tryz.prog 55 [.ptr 0 0,.i p1] [.tr E76 (some p0_0)] (fun q Hq=>q=[.agg [.i r.1.1,.str r.1.2.1,.sl .i r.1.2.2],.i r.2]∧Hq=[.tr E76 (some p0_0)]):=by
 refine zAW Tryz.func55 Tryz.ntmps55 J (rs:=[.cell 4 42,.tmp 5]) J J fun w0 X hX=>?_
 refine sq<|rg<|O oa<|V va<|nl<|an<|sq<|bl<|sq<|rg<|V vm<|?_
 refine V (av_ptrnil (undX 26 J) J J)<|V va<|nl<|an<|?_
 refine zA3 rfl<|sq<|rg<|V vm<|V vls<|V va<|nl<|an<|?_
 refine cnd (fun hc1 hr=>?_) (fun hc1 hr=>?_)
 ·refine sq<|rg<|V (zAs (qs:=[]) (cs:=[.i 0,.str ([] : Str),.nils]) bt42 J J J)<|?_
  refine zAG (wk_agg (t:=15) (cs':=[.i 0,.str ([] : Str),.sl .i ([] : List Int)]) J ⟨cv0,cv0,cv2,trivial⟩)<|O os<|V va<|?_
  obtain rfl:=Option.some.inj hr
  exact nl<|an<|cr<|zAE (zAC (zAe (l':=[(4,.rp [.i 0,.str ([] : Str),.sl .i ([] : List Int)]),(5,.i 7)]) (Hs:=[(0,.tr E76 (some p0_0))]) (n:=1) (zAA hX [0] 4 J J wS wO) J J J ⟨(.inr ⟨_,3,rfl,(tsX 42 J),rfl,rfl⟩),rfl,trivial⟩))
 refine sk<|bn<|an<|sq<|rg<|V vm<|V vnp<|V vfp<|?_
 refine zAG (zAd (i:=0) (W76 p0_0 2 3) [.map .i Y4 p0_0.2.1,.map .i Y5 p0_0.2.2.1] J J J J)<|V vlp<|V vm<|?_
 refine V (av_lookup2 (kx:=p1) (r:=.tup [.agg [.i ((((mget p0_0.2.2.1 p1).getD (0,([] : Str),[]))).1),.str (((((mget p0_0.2.2.1 p1).getD (0,([] : Str),[]))).2).1),.sl .i (((((mget p0_0.2.2.1 p1).getD (0,([] : Str),[]))).2).2)],.bool ((mget p0_0.2.2.1 p1).isSome)]) (undX 74 J) kt3 zw42 J J J J J)<|V vm<|V vx<|V vx<|O oa<|O os<|V va<|nl<|an<|sq<|sq<|rg<|V vm<|V vno<|nl<|an<|?_
 refine cnd (fun hc2 hr=>?_) (fun hc2 hr=>?_)
 ·refine sq<|rg<|V (zAs (qs:=[]) (cs:=[.i 0,.str ([] : Str),.nils]) bt42 J J J)<|?_
  refine zAG (wk_agg (t:=27) (cs':=[.i 0,.str ([] : Str),.sl .i ([] : List Int)]) J ⟨cv0,cv0,cv2,trivial⟩)<|O os<|V va<|?_
  obtain rfl:=Option.some.inj hr
  exact nl<|an<|cr<|zAC (zAe (l':=[(4,.rp [.i 0,.str ([] : Str),.sl .i ([] : List Int)]),(5,.i 8)]) (Hs:=[(0,.tr E76 (some p0_0))]) (n:=1) (Wk.trans (pk (i:=0) (e:=F76) (js:=[2,3]) p0_0) (zAA hX [0] 4 J J wS wO)) J J J ⟨(.inr ⟨_,3,rfl,(tsX 42 J),rfl,rfl⟩),rfl,trivial⟩)
 obtain ⟨x3,e4,hr⟩:=zA hr
 refine sk<|an<|sq<|rg<|V vfp<|V vlp<|?_
 refine zAK (zAP (σ:=[]) (as':=[.sl .i (((((mget p0_0.2.2.1 p1).getD (0,([] : Str),[]))).2).2)]) (f60_runs e4).x ent60 J ⟨cv0,trivial⟩ J J J ?_)
 refine V vfp<|O os<|nl<|an<|sq<|rg<|V vlP<|O os<|V va<|?_
 obtain rfl:=Option.some.inj hr
 exact nl<|an<|cr<|zAe (l':=[(4,.rp [.i ((((mget p0_0.2.2.1 p1).getD (0,([] : Str),[]))).1),.str (((((mget p0_0.2.2.1 p1).getD (0,([] : Str),[]))).2).1),.sl .i x3]),(5,.i 0)]) (Hs:=[(0,.tr E76 (some p0_0))]) (n:=1) (Wk.trans (pk (i:=0) (e:=F76) (js:=[2,3]) p0_0) (zAA hX [0] 4 J J wS wO)) J J J ⟨(.inr ⟨_,3,rfl,(tsX 42 J),rfl,rfl⟩),rfl,trivial⟩
theorem f33_runs {p0_0:ZW}{p1:Int}{r:Int×(ZW)}(hr:f33 p0_0 p1=some r) : Runs Tryz.prog 33 [.ptr 0 0,.i p1] [.tr E76 (some p0_0)] (fun q Hq=>q=[.i r.1]∧Hq=[.tr E76 (some r.2)]):=by
 refine zAW Tryz.func33 Tryz.ntmps33 J (rs:=[.tmp 4]) J J fun w0 X hX=>?_
 obtain ⟨x2,e3,hr⟩:=zA hr
 refine sq<|rg<|V va<|nl<|an<|sq<|sq<|rg<|V vm<|V vm<|?_
 refine zAK (zAP (σ:=[0]) (as':=[.ptr 0 0,.i p1]) (f55_runs e3).x ent55 J ⟨cv0,cv0,trivial⟩ J J J ?_)
 refine V vm<|V vx<|V vx<|O oa<|O os<|V va<|nl<|an<|sq<|rg<|V vm<|V vne<|nl<|an<|?_
 refine cnd (fun hc4 hr=>?_) (fun hc4 hr=>?_)
 ·refine sq<|rg<|V vm<|V va<|?_
  obtain rfl:=Option.some.inj hr
  exact nl<|an<|cr<|zAC (zAe (l':=[(4,.i x2.2)]) (Hs:=[(0,.tr E76 (some p0_0))]) (n:=1) (zAA hX [0] 4 J J wS wO) J J J ⟨rfl,trivial⟩)
 refine sk<|an<|sq<|rg<|V vm<|V vnp<|V vfp<|?_
 refine zAG (zAd (i:=0) (W76 p0_0 2 3) [.map .i Y4 p0_0.2.1,.map .i Y5 p0_0.2.2.1] J J J J)<|V vlp<|V vm<|?_
 refine zAK (aop_mapDel (kx:=p1) J J J (undX 74 J) kt3 J J J J ?_)
 refine nl<|an<|sq<|rg<|V va<|?_
 obtain rfl:=Option.some.inj hr
 exact nl<|an<|cr<|zAe (l':=[(4,.i 0)]) (Hs:=[(0,.tr E76 (some (p0_0.1,p0_0.2.1,(mdel p0_0.2.2.1 p1),p0_0.2.2.2.1,p0_0.2.2.2.2)))]) (n:=1) (Wk.trans (pk (i:=0) (e:=F76) (js:=[2,3]) (p0_0.1,p0_0.2.1,(mdel p0_0.2.2.1 p1),p0_0.2.2.2.1,p0_0.2.2.2.2)) (zAA hX [0] 4 J J wS wO)) J J J ⟨rfl,trivial⟩
theorem f36_runs {p0_0:ZR}{p1:Int}{r:(Int×Str×List Int)×Int}(hr:f36 p0_0 p1=some r) : Runs Tryz.prog 36 [.ptr 0 0,.i p1] [.tr E80 (some p0_0)] (fun q Hq=>q=[.agg [.i r.1.1,.str r.1.2.1,.sl .i r.1.2.2],.i r.2]∧Hq=[.tr E80 (some p0_0)]):=by
 refine zAW Tryz.func36 Tryz.ntmps36 J (rs:=[.cell 4 42,.tmp 5]) J J fun w0 X hX=>?_
 refine sq<|rg<|O oa<|V va<|nl<|an<|sq<|sq<|rg<|V vm<|V vls<|nl<|an<|?_
 refine cnd (fun hc1 hr=>?_) (fun hc1 hr=>?_)
 ·refine sq<|rg<|V (zAs (qs:=[]) (cs:=[.i 0,.str ([] : Str),.nils]) bt42 J J J)<|?_
  refine zAG (wk_agg (t:=10) (cs':=[.i 0,.str ([] : Str),.sl .i ([] : List Int)]) J ⟨cv0,cv0,cv2,trivial⟩)<|O os<|V va<|?_
  obtain rfl:=Option.some.inj hr
  exact nl<|an<|cr<|zAC (zAe (l':=[(4,.rp [.i 0,.str ([] : Str),.sl .i ([] : List Int)]),(5,.i 7)]) (Hs:=[(0,.tr E80 (some p0_0))]) (n:=1) (zAA hX [0] 4 J J wS wO) J J J ⟨(.inr ⟨_,3,rfl,(tsX 42 J),rfl,rfl⟩),rfl,trivial⟩)
 obtain ⟨o7,e8,hr⟩:=zA hr
 refine sk<|an<|sq<|sq<|rg<|V vm<|V vnp<|V vfp<|?_
 refine zAG (zAd (i:=0) [.sl Y2 p0_0.1,.osl 2,.osl 3,.i p0_0.2.2.2.1,.i p0_0.2.2.2.2] [.sl 54 Y4 p0_0.2.1,.sl 42 Y5 p0_0.2.2.1] J J J J)<|V vlp<|V vnL<|V vm<|nl<|an<|bl<|?_
 refine zA5 (i:=3) J J (fun hl=>?_)
 refine zAI (S:=Unit) (R:=Int×Str×List Int) (List.length p0_0.2.2.1 : Int) (f36_b0 p0_0 p1) (fun p=>match p with | (i2,())=>(⟨[(1,.i p1),(4,.ptr 1 0),(5,.i 0),(14,.osl 2),(15,.i (List.length p0_0.2.2.1 : Int)),(16,.i i2)],[(0,.var 80 [.sl Y2 p0_0.1,.osl 3,.osl 2,.i p0_0.2.2.2.1,.i p0_0.2.2.2.2]),(1,.var 42 [.i 0,.str ([] : Str),.nils]),(2,.sl 42 Y5 p0_0.2.2.1),(3,.sl 54 Y4 p0_0.2.1)],4⟩ : AS)) (fun o e st=>match o with | .inl ()=>e=.exit 0∧Wk X st ⟨[(4,.ptr 1 0),(5,.i 0)],[(0,.var 80 [.sl Y2 p0_0.1,.osl 3,.osl 2,.i p0_0.2.2.2.1,.i p0_0.2.2.2.2]),(1,.var 42 [.i 0,.str ([] : Str),.nils]),(2,.sl 42 Y5 p0_0.2.2.1),(3,.sl 54 Y4 p0_0.2.1)],4⟩ | .inr (s4,s5,s6)=>e=.ret∧Wk X st ⟨[(4,.ptr 1 0),(5,.i 0)],[(0,.tr E80 (some p0_0)),(1,.var 42 [.i s4,.str s5,.sl .i s6])],2⟩) (zAf hl) e8 (by exact zAA hX [0,1,3,2] 4 J J wS wO) ?_ ?_
 ·intro e st hx
  rcases o7 with _ | ⟨s4,s5,s6⟩
  ·obtain ⟨rfl,hw⟩:=hx
   refine bh<|an<|(zAY hw)<|sq<|rg<|V (zAs (qs:=[]) (cs:=[.i 0,.str ([] : Str),.nils]) bt42 J J J)<|?_
   refine zAG (wk_agg (t:=26) (cs':=[.i 0,.str ([] : Str),.sl .i ([] : List Int)]) J ⟨cv0,cv0,cv2,trivial⟩)<|O os<|V va<|?_
   obtain rfl:=Option.some.inj hr
   exact nl<|an<|cr<|zAe (l':=[(4,.rp [.i 0,.str ([] : Str),.sl .i ([] : List Int)]),(5,.i 8)]) (Hs:=[(0,.tr E80 (some p0_0))]) (n:=1) (Wk.trans (pk (i:=0) (e:=F80) (js:=[3,2]) p0_0) (zAA hX [0] 4 J J wS wO)) J J J ⟨(.inr ⟨_,3,rfl,(tsX 42 J),rfl,rfl⟩),rfl,trivial⟩
  obtain ⟨rfl,hw⟩:=hx
  obtain rfl:=Option.some.inj hr
  exact zAE (zAC (zAe (l':=[(4,.rp [.i s4,.str s5,.sl .i s6]),(5,.i 0)]) (Hs:=[(0,.tr E80 (some p0_0))]) (n:=1) (Wk.trans hw (zAA hX [0] 4 J J wS wO)) J J J ⟨(.inr ⟨_,3,rfl,(tsX 42 J),rfl,rfl⟩),rfl,trivial⟩))
 rintro i2 _ o ho
 refine sq<|rg<|V vls<|nl<|an<|sq<|?_
 refine zAO (b:=decide (i2 < (List.length p0_0.2.2.1 : Int))) J (fun hc9=>?_) (fun hc9=>?_)
 ·obtain ⟨q,hr,rfl⟩:=zA7 hc9 ho
  obtain ⟨x10,e11,hr⟩:=zA hr
  refine sk<|an<|sq<|bl<|sq<|rg<|V (zAn (t:=Y5) (undX 78 J) (szX 42 J) J J J e11)<|?_
  refine V (zB5 (tsX 42 J) J J J (zCM e11) J J)<|O oa<|O os<|nl<|an<|sq<|rg<|V vfp<|V vlp<|V vm<|V veq<|nl<|an<|?_
  refine cnd (fun hc12 hr=>?_) (fun hc12 hr=>?_)
  ·refine sq<|rg<|V vlP<|O os<|V va<|?_
   obtain rfl:=Option.some.inj hr
   exact nl<|an<|cr<|zAE (zAC (⟨rfl,(Wk.trans (pk (i:=0) (e:=F80) (js:=[3,2]) p0_0) (zAA hX [0,1] 4 J J wS wO))⟩))
  refine sk<|bn<|an<|rg<|V vad<|V vm<|?_
  obtain rfl:=Option.some.inj hr
  exact zAJ ((zAA hX [0,1,2,3] 4 J J wS wO))
 obtain rfl:=zA8 hc9 ho
 exact zAH (zAF (⟨rfl,(zAA hX [0,1,2,3] 4 J J wS wO)⟩))
theorem zBY {p0:List Int}{p1:Int}{r:Bool}(hr:f15 p0 p1=some r) : zBb Tryz.prog 15 [.sl .i p0,.i p1] [.bool r]:=by
 refine zAW Tryz.func15 Tryz.ntmps15 J (rs:=[.tmp 4]) J J fun w0 X hX=>?_
 obtain ⟨o3,e4,hr⟩:=zA hr
 refine sq<|rg<|V va<|nl<|an<|sq<|sq<|rg<|V vm<|V vnl<|V vm<|nl<|an<|bl<|?_
 refine zAb (t:=0) J (fun hl=>?_)
 refine zAI (List.length p0 : Int) (f15_b0 p0 p1) (fun p=>match p with | (i1,())=>(⟨[(1,.i p1),(4,.bool false),(7,.sl .i p0),(8,.i (List.length p0 : Int)),(9,.i i1)],[],0⟩ : AS)) (fun o e st=>match o with | .inl ()=>e=.exit 0∧Wk X st ⟨[(4,.bool false)],[],0⟩ | .inr ()=>e=.ret∧Wk X st ⟨[(4,.bool true)],[],0⟩) (zAf hl) e4 (by exact zAA hX [] 4 J J wS trivial) ?_ ?_
 ·intro e st hx
  rcases o3 with _ | _
  ·obtain ⟨rfl,hw⟩:=hx
   refine bh<|an<|(zAY hw)<|sq<|rg<|V va<|?_
   obtain rfl:=Option.some.inj hr
   exact nl<|an<|cr<|zAk (l':=[(4,.bool false)]) (zAA hX [] 4 J J wS trivial) J ⟨rfl,trivial⟩
  obtain ⟨rfl,hw⟩:=hx
  obtain rfl:=Option.some.inj hr
  exact zAE (zAC (zAk (l':=[(4,.bool true)]) (Wk.trans hw (zAA hX [] 4 J J wS trivial)) J ⟨rfl,trivial⟩))
 rintro i1 _ o ho
 refine sq<|rg<|V vls<|nl<|an<|sq<|?_
 refine zAO (b:=decide (i1 < (List.length p0 : Int))) J (fun hc5=>?_) (fun hc5=>?_)
 ·obtain ⟨q,hr,rfl⟩:=zA7 hc5 ho
  obtain ⟨x6,e7,hr⟩:=zA hr
  refine sk<|an<|sq<|bl<|sq<|rg<|V (zAQ (t:=.i) (e:=x6) (undX 33 J) (szX 3 J) J J e7)<|V vlr<|V va<|nl<|an<|sq<|rg<|V vm<|V vm<|V veq<|nl<|an<|?_
  refine cnd (fun hc8 hr=>?_) (fun hc8 hr=>?_)
  ·refine sq<|rg<|V va<|?_
   obtain rfl:=Option.some.inj hr
   exact nl<|an<|cr<|zAE (zAC (⟨rfl,(zAA hX [] 4 J J wS trivial)⟩))
  refine sk<|bn<|an<|rg<|V vad<|V vm<|?_
  obtain rfl:=Option.some.inj hr
  exact zAJ ((zAA hX [] 4 J J wS trivial))
 obtain rfl:=zA8 hc5 ho
 exact zAH (zAF (⟨rfl,(zAA hX [] 4 J J wS trivial)⟩))
theorem f86_runs {p0_0:ZR}{p1:List Int}{r:(ZR)}(hr:f86 p0_0 p1=some r) : Runs Tryz.prog 86 [.ptr 0 0,.sl .i p1] [.tr E80 (some p0_0)] (fun q Hq=>q=[]∧Hq=[.tr E80 (some r)]):=by
 refine zAW Tryz.func86 Tryz.ntmps86 J (rs:=[]) J J fun w0 X hX=>?_
 obtain ⟨o7,e8,hr⟩:=zA hr
 refine sq<|rg<|V va<|nl<|an<|sq<|sq<|rg<|V vm<|V vnp<|V vfp<|?_
 refine zAG (zAd (i:=0) [.sl Y2 p0_0.1,.osl 1,.osl 2,.i p0_0.2.2.2.1,.i p0_0.2.2.2.2] [.sl 54 Y4 p0_0.2.1,.sl 42 Y5 p0_0.2.2.1] J J J J)<|V vlp<|V vnL<|V vm<|nl<|an<|bl<|?_
 refine zA5 (i:=2) J J (fun hl=>?_)
 refine zAI (List.length p0_0.2.2.1 : Int) (f86_b0 p0_0 p1) (fun p=>match p with | (i2,s4)=>(⟨[(0,.ptr 0 0),(1,.sl .i p1),(4,.osl 1),(10,.osl 2),(11,.i (List.length p0_0.2.2.1 : Int)),(12,.i i2)],[(0,.var 80 [.sl Y2 p0_0.1,.osl 3,.osl 2,.i p0_0.2.2.2.1,.i p0_0.2.2.2.2]),(1,.sl 42 Y5 s4),(2,.sl 42 Y5 p0_0.2.2.1),(3,.sl 54 Y4 p0_0.2.1)],4⟩ : AS)) (fun o e st=>match o with | .inr _=>False | .inl s4=>e=.exit 0∧Wk X st ⟨[(0,.ptr 0 0),(4,.osl 1)],[(0,.var 80 [.sl Y2 p0_0.1,.osl 3,.osl 2,.i p0_0.2.2.2.1,.i p0_0.2.2.2.2]),(1,.sl 42 Y5 s4),(2,.sl 42 Y5 p0_0.2.2.1),(3,.sl 54 Y4 p0_0.2.1)],4⟩) (zAf hl) e8 (Wk.trans (zAt (t:=4) 42 Y5 J) (by exact zAA hX [0,3,2,1] 4 J J wS wO)) ?_ ?_
 ·intro e st hx
  rcases o7 with s4 | _
  ·obtain ⟨rfl,hw⟩:=hx
   refine bh<|an<|(zAY hw)<|rg<|V vm<|V vm<|V vnp<|V vfp<|O os<|?_
   obtain rfl:=Option.some.inj hr
   exact zAJ (zCz (zAe (l':=[]) (Hs:=[(0,.tr E80 (some (p0_0.1,p0_0.2.1,s4,p0_0.2.2.2.1,p0_0.2.2.2.2)))]) (n:=1) (Wk.trans (pk (i:=0) (e:=F80) (js:=[3,1]) (p0_0.1,p0_0.2.1,s4,p0_0.2.2.2.1,p0_0.2.2.2.2)) (zAA hX [0] 4 J J trivial wO)) J J J trivial))
  exact hx.elim
 rintro i2 s4 o ho
 refine sq<|rg<|V vls<|nl<|an<|sq<|?_
 refine zAO (b:=decide (i2 < (List.length p0_0.2.2.1 : Int))) J (fun hc9=>?_) (fun hc9=>?_)
 ·obtain ⟨q,hr,rfl⟩:=zA7 hc9 ho
  obtain ⟨o11,e12,hr⟩:=zA hr
  refine sk<|an<|?_
  refine zAy (S:=(List (Int×Str×List Int))) (R:=Unit) (fun s=>match s with | s10=>(⟨[(0,.ptr 0 0),(1,.sl .i p1),(4,.osl 1),(10,.osl 2),(11,.i (List.length p0_0.2.2.1 : Int)),(12,.i i2)],[(0,.var 80 [.sl Y2 p0_0.1,.osl 3,.osl 2,.i p0_0.2.2.2.1,.i p0_0.2.2.2.2]),(1,.sl 42 Y5 s10),(2,.sl 42 Y5 p0_0.2.2.1),(3,.sl 54 Y4 p0_0.2.1)],4⟩ : AS)) (fun _ _ _=>False) e12 (fun hr=>?_) ?_ ?_
  ·obtain ⟨x13,e14,hr⟩:=zA hr
   obtain ⟨x15,e16,hr⟩:=zA hr
   refine bl<|sq<|rg<|V (zAn (t:=Y5) (undX 78 J) (szX 42 J) J J J e14)<|?_
   refine V (zB5 (tsX 42 J) J J J (zCM e14) J J)<|O oa<|O os<|nl<|an<|sq<|rg<|V vm<|V vfp<|V vlp<|?_
   refine V (zAV (zBY e16).x zB9 J J)<|V vno<|nl<|an<|?_
   refine cnd (fun hc17 hr=>?_) (fun hc17 hr=>?_)
   ·refine rg<|V vm<|V vlP<|?_
    refine V (zAM (t:=Y5) (qs:=[(0,[.i x13.1,.str x13.2.1,.sl .i x13.2.2])]) (ys:=[x13]) bs78 J J J J J J J J)<|?_
    obtain ⟨h18,hr⟩:=zAN hr
    refine zAK (zAh J J app78 J J J h18 J ?_)
    refine V va<|?_
    obtain rfl:=Option.some.inj hr
    exact zAJ (zAS ((zAA hX [0,5,2,3] 4 J J wS wO)))
   obtain rfl:=Option.some.inj hr
   exact zAv (zAS ((zAA hX [0,1,2,3] 4 J J wS wO)))
  ·rintro s10 rfl
   refine rg<|V vad<|V vm<|?_
   obtain rfl:=Option.some.inj hr
   exact zAJ ((zAA hX [0,1,2,3] 4 J J wS wO))
  exact fun r h e st hne hx=>hx.elim
 obtain rfl:=zA8 hc9 ho
 exact zAH (zAF (⟨rfl,(zAA hX [0,1,2,3] 4 J J wS wO)⟩))
theorem f34_runs {p0_0:ZR}{p1:Int}{r:Int×(ZR)}(hr:f34 p0_0 p1=some r) : Runs Tryz.prog 34 [.ptr 0 0,.i p1] [.tr E80 (some p0_0)] (fun q Hq=>q=[.i r.1]∧Hq=[.tr E80 (some r.2)]):=by
 refine zAW Tryz.func34 Tryz.ntmps34 J (rs:=[.tmp 4]) J J fun w0 X hX=>?_
 obtain ⟨x2,e3,hr⟩:=zA hr
 refine sq<|rg<|V va<|nl<|an<|sq<|rg<|V vm<|V vm<|?_
 refine zAK (zAP (σ:=[0]) (as':=[.ptr 0 0,.i p1]) (f36_runs e3).x ent36 J ⟨cv0,cv0,trivial⟩ J J J ?_)
 obtain ⟨o5,e6,hr⟩:=zA hr
 refine V vm<|V vx<|V vx<|O oa<|O os<|V va<|nl<|an<|?_
 refine zAy (S:=(ZR)) (R:=Unit) (fun s=>match s with | s4=>(⟨[(4,.i 0),(6,.i x2.2)],[(0,.tr E80 (some s4))],1⟩ : AS)) (fun _ _ _=>False) e6 (fun hr=>?_) ?_ ?_
 ·refine sq<|rg<|V vm<|V veq<|nl<|an<|?_
  refine cnd (fun hc7 hr=>?_) (fun hc7 hr=>?_)
  ·obtain ⟨x8,e9,hr⟩:=zA hr
   refine rg<|V vm<|V vm<|?_
   refine V (zAM (t:=.i) (qs:=[(0,[.i p1])]) (ys:=[p1]) bs33 J J J J J J J J)<|?_
   refine zAK (zAP (σ:=[0]) (as':=[.ptr 0 0,.sl .i [p1]]) (f86_runs e9).x ent86 J ⟨cv0,cv0,trivial⟩ J J J ?_)
   obtain rfl:=Option.some.inj hr
   exact zAJ ((zAA hX [0] 4 J J wS wO))
  obtain rfl:=Option.some.inj hr
  exact zAv ((zAA hX [0] 4 J J wS wO))
 ·rintro s4 rfl
  refine sq<|rg<|V vm<|V va<|?_
  obtain rfl:=Option.some.inj hr
  exact nl<|an<|cr<|zAe (l':=[(4,.i x2.2)]) (Hs:=[(0,.tr E80 (some s4))]) (n:=1) (zAA hX [0] 4 J J wS wO) J J J ⟨rfl,trivial⟩
 exact fun r h e st hne hx=>hx.elim
theorem ent57 : Enters Tryz.prog 57:=enters_of Tryz.func57 (by kernel_rfl) rfl
theorem ent121 : Enters Tryz.prog 121:=enters_of Tryz.func121 (by kernel_rfl) rfl
theorem f57_runs {p0:ZW}{p1:List Int}{r:Int}(hr:f57 p0 p1=some r) : zBb Tryz.prog 57 [.rp (D76 p0),.sl .i p1] [.i r]:=by
 refine zAW Tryz.func57 Tryz.ntmps57 J (rs:=[.tmp 4]) J J fun w0 X hX=>?_
 obtain ⟨x1,e2,hr⟩:=zA hr
 refine sq<|rg<|V va<|nl<|an<|sq<|sq<|rg<|V vm<|?_
 refine V (zCj (undX 26 J) J J)<|nl<|an<|?_
 refine zA3 rfl<|sk<|an<|sq<|rg<|V vm<|V vm<|?_
 refine V (zAV (f50_runs e2).x ent50 J J)<|V va<|?_
 obtain rfl:=Option.some.inj hr
 exact nl<|an<|cr<|zAk (l':=[(4,.i x1)]) (zAA hX [] 4 J J wS trivial) J ⟨rfl,trivial⟩
theorem zC6 {p0:ZW}{p1:Int}{r:(Int×Int×Str)×Int}(hr:f17 p0 p1=some r) : zBb Tryz.prog 17 [.rp (D76 p0),.i p1] [.agg [.i r.1.1,.i r.1.2.1,.str r.1.2.2],.i r.2]:=by
 refine zAW Tryz.func17 Tryz.ntmps17 J (rs:=[.cell 4 54,.tmp 5]) J J fun w0 X hX=>?_
 obtain ⟨x1,e2,hr⟩:=zA hr
 refine sq<|rg<|O oa<|V va<|nl<|an<|sq<|sq<|rg<|V vm<|V vm<|?_
 refine V (zAM (t:=.i) (qs:=[(0,[.i p1])]) (ys:=[p1]) bs33 J J J J J J J J)<|?_
 refine V (zAV (f57_runs e2).x ent57 J J)<|V va<|nl<|an<|sq<|rg<|V vm<|V vne<|nl<|an<|?_
 refine cnd (fun hc3 hr=>?_) (fun hc3 hr=>?_)
 ·refine sq<|rg<|V (zAs (qs:=[]) (cs:=[.i 0,.i 0,.str ([] : Str)]) bt54 J J J)<|V vm<|O os<|V va<|?_
  obtain rfl:=Option.some.inj hr
  exact nl<|an<|cr<|zAC (zAk (l':=[(4,.rp [.i 0,.i 0,.str ([] : Str)]),(5,.i x1)]) (zAA hX [] 4 J J wS trivial) J ⟨(.inr ⟨_,3,rfl,(tsX 54 J),rfl,rfl⟩),rfl,trivial⟩)
 refine sk<|an<|sq<|rg<|V vm<|V vnr<|V vfr<|V vlr<|V vm<|?_
 refine V (zBA (kx:=p1) (r:=.agg [.i ((((mget p0.2.1 p1).getD (0,0,([] : Str)))).1),.i (((((mget p0.2.1 p1).getD (0,0,([] : Str)))).2).1),.str (((((mget p0.2.1 p1).getD (0,0,([] : Str)))).2).2)]) (undX 73 J) kt3 zw54 J J J J)<|O os<|V va<|?_
 obtain rfl:=Option.some.inj hr
 exact nl<|an<|cr<|zAk (l':=[(4,.rp [.i ((((mget p0.2.1 p1).getD (0,0,([] : Str)))).1),.i (((((mget p0.2.1 p1).getD (0,0,([] : Str)))).2).1),.str (((((mget p0.2.1 p1).getD (0,0,([] : Str)))).2).2)]),(5,.i 0)]) (zAA hX [] 4 J J wS trivial) J ⟨(.inr ⟨_,3,rfl,(tsX 54 J),rfl,rfl⟩),rfl,trivial⟩
theorem f35_runs {p0:ZR}{p1:Int}{r:(Int×Int×Str)×Int}(hr:f35 p0 p1=some r) : zBb Tryz.prog 35 [.rp (R80 p0),.i p1] [.agg [.i r.1.1,.i r.1.2.1,.str r.1.2.2],.i r.2]:=by
 refine zAW Tryz.func35 Tryz.ntmps35 J (rs:=[.cell 4 54,.tmp 5]) J J fun w0 X hX=>?_
 refine sq<|rg<|O oa<|V va<|nl<|an<|sq<|sq<|rg<|V vm<|V vls<|nl<|an<|?_
 refine cnd (fun hc1 hr=>?_) (fun hc1 hr=>?_)
 ·refine sq<|rg<|V (zAs (qs:=[]) (cs:=[.i 0,.i 0,.str ([] : Str)]) bt54 J J J)<|O os<|V va<|?_
  obtain rfl:=Option.some.inj hr
  exact nl<|an<|cr<|zAC (zAk (l':=[(4,.rp [.i 0,.i 0,.str ([] : Str)]),(5,.i 7)]) (zAA hX [] 4 J J wS trivial) J ⟨(.inr ⟨_,3,rfl,(tsX 54 J),rfl,rfl⟩),rfl,trivial⟩)
 obtain ⟨o7,e8,hr⟩:=zA hr
 refine sk<|an<|sq<|sq<|rg<|V vm<|V vnr<|V vfr<|V vlr<|V vnl<|V vm<|nl<|an<|bl<|?_
 refine zAb (t:=14) J (fun hl=>?_)
 refine zAI (S:=Unit) (R:=Int×Int×Str) (List.length p0.2.1 : Int) (f35_b0 p0 p1) (fun p=>match p with | (i2,())=>(⟨[(1,.i p1),(4,.ptr 0 0),(5,.i 0),(14,.sl Y4 p0.2.1),(15,.i (List.length p0.2.1 : Int)),(16,.i i2)],[(0,.var 54 [.i 0,.i 0,.str ([] : Str)])],1⟩ : AS)) (fun o e st=>match o with | .inl ()=>e=.exit 0∧Wk X st ⟨[(4,.ptr 0 0),(5,.i 0)],[(0,.var 54 [.i 0,.i 0,.str ([] : Str)])],1⟩ | .inr (s4,s5,s6)=>e=.ret∧Wk X st ⟨[(4,.ptr 0 0),(5,.i 0)],[(0,.var 54 [.i s4,.i s5,.str s6])],1⟩) (zAf hl) e8 (by exact zAA hX [0] 4 J J wS wO) ?_ ?_
 ·intro e st hx
  rcases o7 with _ | ⟨s4,s5,s6⟩
  ·obtain ⟨rfl,hw⟩:=hx
   refine bh<|an<|(zAY hw)<|sq<|rg<|V (zAs (qs:=[]) (cs:=[.i 0,.i 0,.str ([] : Str)]) bt54 J J J)<|O os<|V va<|?_
   obtain rfl:=Option.some.inj hr
   exact nl<|an<|cr<|zAk (l':=[(4,.rp [.i 0,.i 0,.str ([] : Str)]),(5,.i 8)]) (zAA hX [] 4 J J wS trivial) J ⟨(.inr ⟨_,3,rfl,(tsX 54 J),rfl,rfl⟩),rfl,trivial⟩
  obtain ⟨rfl,hw⟩:=hx
  obtain rfl:=Option.some.inj hr
  exact zAE (zAC (zAk (l':=[(4,.rp [.i s4,.i s5,.str s6]),(5,.i 0)]) (Wk.trans hw (zAA hX [] 4 J J wS trivial)) J ⟨(.inr ⟨_,3,rfl,(tsX 54 J),rfl,rfl⟩),rfl,trivial⟩))
 rintro i2 _ o ho
 refine sq<|rg<|V vls<|nl<|an<|sq<|?_
 refine zAO (b:=decide (i2 < (List.length p0.2.1 : Int))) J (fun hc9=>?_) (fun hc9=>?_)
 ·obtain ⟨q,hr,rfl⟩:=zA7 hc9 ho
  obtain ⟨x10,e11,hr⟩:=zA hr
  refine sk<|an<|sq<|bl<|sq<|rg<|V (zAQ (t:=Y4) (e:=x10) (undX 52 J) (szX 54 J) J J e11)<|V vlR<|O oa<|O os<|nl<|an<|sq<|rg<|V vfp<|V vlp<|V vm<|V veq<|nl<|an<|?_
  refine cnd (fun hc12 hr=>?_) (fun hc12 hr=>?_)
  ·refine sq<|rg<|V vlP<|O os<|V va<|?_
   obtain rfl:=Option.some.inj hr
   exact nl<|an<|cr<|zAE (zAC (⟨rfl,(zAA hX [0] 4 J J wS wO)⟩))
  refine sk<|bn<|an<|rg<|V vad<|V vm<|?_
  obtain rfl:=Option.some.inj hr
  exact zAJ ((zAA hX [0] 4 J J wS wO))
 obtain rfl:=zA8 hc9 ho
 exact zAH (zAF (⟨rfl,(zAA hX [0] 4 J J wS wO)⟩))
theorem f14_runs {p0_0:ZW}{p1:Int}{r:(Int×Str×List Int)×Int}(hr:f14 p0_0 p1=some r) : Runs Tryz.prog 14 [.ptr 0 0,.i p1] [.tr E76 (some p0_0)] (fun q Hq=>q=[.agg [.i r.1.1,.str r.1.2.1,.sl .i r.1.2.2],.i r.2]∧Hq=[.tr E76 (some p0_0)]):=by
 refine zAW Tryz.func14 Tryz.ntmps14 J (rs:=[.cell 4 42,.tmp 5]) J J fun w0 X hX=>?_
 obtain ⟨x1,e2,hr⟩:=zA hr
 refine sq<|rg<|O oa<|V va<|nl<|an<|sq<|rg<|V vm<|V vm<|?_
 refine zAK (zAP (σ:=[0]) (as':=[.ptr 0 0,.i p1]) (f55_runs e2).x ent55 J ⟨cv0,cv0,trivial⟩ J J J ?_)
 refine V vx<|V vx<|O os<|V va<|?_
 obtain rfl:=Option.some.inj hr
 exact nl<|an<|cr<|zAe (l':=[(4,.rp [.i x1.1.1,.str x1.1.2.1,.sl .i x1.1.2.2]),(5,.i x1.2)]) (Hs:=[(0,.tr E76 (some p0_0))]) (n:=1) (zAA hX [0] 4 J J wS wO) J J J ⟨(.inr ⟨_,3,rfl,(tsX 42 J),rfl,rfl⟩),rfl,trivial⟩
theorem zCI {p0:List Int}{p1:List Int}{r:Bool}(hr:f21 p0 p1=some r) : zBb Tryz.prog 21 [.sl .i p0,.sl .i p1] [.bool r]:=by
 refine zAW Tryz.func21 Tryz.ntmps21 J (rs:=[.tmp 4]) J J fun w0 X hX=>?_
 refine sq<|rg<|V va<|nl<|an<|sq<|sq<|rg<|V vm<|V vnl<|V vm<|V vnl<|V vne<|nl<|an<|?_
 refine cnd (fun hc1 hr=>?_) (fun hc1 hr=>?_)
 ·refine sq<|rg<|V va<|?_
  obtain rfl:=Option.some.inj hr
  exact nl<|an<|cr<|zAC (zAk (l':=[(4,.bool false)]) (zAA hX [] 4 J J wS trivial) J ⟨rfl,trivial⟩)
 obtain ⟨o4,e5,hr⟩:=zA hr
 refine sk<|an<|sq<|sq<|rg<|V vm<|V vnl<|V vm<|nl<|an<|bl<|?_
 refine zAb (t:=0) J (fun hl=>?_)
 refine zAI (List.length p0 : Int) (f21_b0 p0 p1) (fun p=>match p with | (i2,())=>(⟨[(0,.sl .i p0),(1,.sl .i p1),(4,.bool false),(12,.i (List.length p0 : Int)),(13,.i i2)],[],0⟩ : AS)) (fun o e st=>match o with | .inl ()=>e=.exit 0∧Wk X st ⟨[(4,.bool false)],[],0⟩ | .inr ()=>e=.ret∧Wk X st ⟨[(4,.bool false)],[],0⟩) (zAf hl) e5 (by exact zAA hX [] 4 J J wS trivial) ?_ ?_
 ·intro e st hx
  rcases o4 with _ | _
  ·obtain ⟨rfl,hw⟩:=hx
   refine bh<|an<|(zAY hw)<|sq<|rg<|V va<|?_
   obtain rfl:=Option.some.inj hr
   exact nl<|an<|cr<|zAk (l':=[(4,.bool true)]) (zAA hX [] 4 J J wS trivial) J ⟨rfl,trivial⟩
  obtain ⟨rfl,hw⟩:=hx
  obtain rfl:=Option.some.inj hr
  exact zAE (zAC (zAk (l':=[(4,.bool false)]) (Wk.trans hw (zAA hX [] 4 J J wS trivial)) J ⟨rfl,trivial⟩))
 rintro i2 _ o ho
 refine sq<|rg<|V vls<|nl<|an<|sq<|?_
 refine zAO (b:=decide (i2 < (List.length p0 : Int))) J (fun hc6=>?_) (fun hc6=>?_)
 ·obtain ⟨q,hr,rfl⟩:=zA7 hc6 ho
  obtain ⟨x7,e8,hr⟩:=zA hr
  obtain ⟨x9,e10,hr⟩:=zA hr
  refine sk<|an<|sq<|bl<|sq<|rg<|V vm<|V va<|nl<|an<|sq<|?_
  refine zBE mixed [0,1,4,12,13,5] [(true,.sl .i p0),(true,.i i2),(true,.rp [.i x7]),(true,.i x7),(true,.sl .i p1),(true,.i i2),(true,.rp [.i x9]),(true,.i x9),(true,.bool (!decide (x7=x9)))] [[],[],[0,1],[2],[],[],[4,5],[6],[3,7]] [8] J J J J J ⟨oB wm,oB wm,zAr J (fun hg=>zAD ⟨rfl,rfl,trivial⟩) (fun hg=>zAQ (t:=.i) (e:=x7) (undX 33 J) (szX 3 J) J J e8),oB wlr,oB wm,oB wm,zAr J (fun hg=>zAD ⟨rfl,rfl,trivial⟩) (fun hg=>zAQ (t:=.i) (e:=x9) (undX 33 J) (szX 3 J) J J e10),oB wlr,oB wne,trivial⟩ (zAD ⟨rfl,trivial⟩) ?_
  refine an<|?_
  refine cnd (fun hc11 hr=>?_) (fun hc11 hr=>?_)
  ·refine sq<|rg<|V va<|?_
   obtain rfl:=Option.some.inj hr
   exact nl<|an<|cr<|zAE (zAC (⟨rfl,(zAA hX [] 4 J J wS trivial)⟩))
  refine sk<|bn<|an<|rg<|V vad<|V vm<|?_
  obtain rfl:=Option.some.inj hr
  exact zAJ ((zAA hX [] 4 J J wS trivial))
 obtain rfl:=zA8 hc6 ho
 exact zAH (zAF (⟨rfl,(zAA hX [] 4 J J wS trivial)⟩))
theorem f121_runs {p0:List Str}{q1:Str→Option Bool}{r:Int}{g1:FuncId}{c1s:List AV}(h_q1:∀ (y1:Str) (r:Bool),q1 y1=some r→zBb Tryz.prog g1 ([.str y1]++c1s) [.bool r]) (k_q1:FnIn Tryz.prog g1 c1s) (hr:f121 p0 q1=some r) : zBb Tryz.prog 121 [.sl .str p0,.clo (.fn g1 [] c1s)] [.i r]:=by
 refine zAW Tryz.func121 Tryz.ntmps121 J (rs:=[.tmp 4]) J J fun w0 X hX=>?_
 obtain ⟨o4,e5,hr⟩:=zA hr
 refine sq<|rg<|V va<|nl<|an<|sq<|sq<|rg<|V vm<|V vnl<|V vm<|nl<|an<|bl<|?_
 refine zAb (t:=0) J (fun hl=>?_)
 refine zAI (List.length p0 : Int) (f121_b0 p0 q1) (fun p=>match p with | (i1,())=>(⟨[(0,.sl .str p0),(1,.clo (.fn g1 [] c1s)),(4,.i 0),(7,.i (List.length p0 : Int)),(8,.i i1)],[],0⟩ : AS)) (fun o e st=>match o with | .inl ()=>e=.exit 0∧Wk X st ⟨[(4,.i 0)],[],0⟩ | .inr s3=>e=.ret∧Wk X st ⟨[(4,.i s3)],[],0⟩) (zAf hl) e5 (by exact zAA hX [] 4 J J wS trivial) ?_ ?_
 ·intro e st hx
  rcases o4 with _ | s3
  ·obtain ⟨rfl,hw⟩:=hx
   refine bh<|an<|(zAY hw)<|sq<|rg<|V va<|?_
   obtain rfl:=Option.some.inj hr
   exact nl<|an<|cr<|zAk (l':=[(4,.i (-1))]) (zAA hX [] 4 J J wS trivial) J ⟨rfl,trivial⟩
  obtain ⟨rfl,hw⟩:=hx
  obtain rfl:=Option.some.inj hr
  exact zAE (zAC (zAk (l':=[(4,.i s3)]) (Wk.trans hw (zAA hX [] 4 J J wS trivial)) J ⟨rfl,trivial⟩))
 rintro i1 _ o ho
 refine sq<|rg<|V vls<|nl<|an<|sq<|?_
 refine zAO (b:=decide (i1 < (List.length p0 : Int))) J (fun hc6=>?_) (fun hc6=>?_)
 ·obtain ⟨q,hr,rfl⟩:=zA7 hc6 ho
  obtain ⟨x7,e8,hr⟩:=zA hr
  obtain ⟨x9,e10,hr⟩:=zA hr
  refine sk<|an<|sq<|bl<|sq<|rg<|V vm<|V va<|nl<|an<|sq<|rg<|V vm<|V vm<|V vm<|?_
  refine V (zAQ (t:=.str) (e:=x7) (undX 139 J) (szX 9 J) J J e8)<|V vlr<|?_
  refine V (av_callq J (h_q1 x7 x9 e10).x k_q1 J J J)<|nl<|an<|?_
  refine cnd (fun hc11 hr=>?_) (fun hc11 hr=>?_)
  ·refine sq<|rg<|V vm<|V va<|?_
   obtain rfl:=Option.some.inj hr
   exact nl<|an<|cr<|zAE (zAC (⟨rfl,(zAA hX [] 4 J J wS trivial)⟩))
  refine sk<|bn<|an<|rg<|V vad<|V vm<|?_
  obtain rfl:=Option.some.inj hr
  exact zAJ ((zAA hX [] 4 J J wS trivial))
 obtain rfl:=zA8 hc6 ho
 exact zAH (zAF (⟨rfl,(zAA hX [] 4 J J wS trivial)⟩))
theorem f106_runs {p0:List Str}{q1:Str→Option Bool}{r:Bool}{g1:FuncId}{c1s:List AV}(h_q1:∀ (y1:Str) (r:Bool),q1 y1=some r→zBb Tryz.prog g1 ([.str y1]++c1s) [.bool r]) (k_q1:FnIn Tryz.prog g1 c1s) (hr:f106 p0 q1=some r) : zBb Tryz.prog 106 [.sl .str p0,.clo (.fn g1 [] c1s)] [.bool r]:=by
 refine zAW Tryz.func106 Tryz.ntmps106 J (rs:=[.tmp 4]) J J fun w0 X hX=>?_
 obtain ⟨x1,e2,hr⟩:=zA hr
 refine sq<|rg<|V va<|nl<|an<|sq<|rg<|V vm<|V vm<|?_
 refine V (zAV (f121_runs (g1:=g1) (c1s:=c1s) h_q1 k_q1 e2).x ent121 J J)<|V vge<|V va<|?_
 obtain rfl:=Option.some.inj hr
 exact nl<|an<|cr<|zAk (l':=[(4,.bool (decide (0≤x1)))]) (zAA hX [] 4 J J wS trivial) J ⟨rfl,trivial⟩
theorem f107_runs {p0:Str}{r:Bool}(hr:f107 p0=some r) : zBb Tryz.prog 107 [.str p0] [.bool r]:=by
 refine zAW Tryz.func107 Tryz.ntmps107 J (rs:=[.tmp 2]) J J fun w0 X hX=>?_
 obtain ⟨x1,e2,hr⟩:=zA hr
 refine sq<|rg<|V va<|nl<|an<|sq<|rg<|V vm<|?_
 refine V (zAV (f73_runs e2).x ent73 J J)<|V vno<|V va<|?_
 obtain rfl:=Option.some.inj hr
 exact nl<|an<|cr<|zAk (l':=[(2,.bool (!x1))]) (zAA hX [] 4 J J wS trivial) J ⟨rfl,trivial⟩
theorem ent122 : Enters Tryz.prog 122:=enters_of Tryz.func122 (by kernel_rfl) rfl
theorem ent107 : Enters Tryz.prog 107:=enters_of Tryz.func107 (by kernel_rfl) rfl
theorem ent106 : Enters Tryz.prog 106:=enters_of Tryz.func106 (by kernel_rfl) rfl
theorem ent108 : Enters Tryz.prog 108:=enters_of Tryz.func108 (by kernel_rfl) rfl
theorem bs139 : BuildS Tryz.prog 139 9 .str:=zCh (z:=.string ByteArray.empty) (by kernel_rfl) (by kernel_rfl) rfl
theorem ent64 : Enters Tryz.prog 64:=enters_of Tryz.func64 (by kernel_rfl) rfl
theorem app139 : AppT Tryz.prog 139 9 (Ty.cells .str) 16:=appT_of (z:=.string ByteArray.empty) (by kernel_rfl) (by kernel_rfl) J rfl
theorem ent114 : Enters Tryz.prog 114:=enters_of Tryz.func114 (by kernel_rfl) rfl
theorem ent87 : Enters Tryz.prog 87:=enters_of Tryz.func87 (by kernel_rfl) rfl
theorem ent88 : Enters Tryz.prog 88:=enters_of Tryz.func88 (by kernel_rfl) rfl
theorem ent89 : Enters Tryz.prog 89:=enters_of Tryz.func89 (by kernel_rfl) rfl
theorem f122_runs {p0:ZO}{p1:Str}{r:Bool}(hr:f122 p0 p1=some r) : zBb Tryz.prog 122 [.agg [.str p0.1,.i p0.2.1,.i p0.2.2.1,.i p0.2.2.2.1,.i p0.2.2.2.2.1,.i p0.2.2.2.2.2],.rp [.str p1]] [.bool r]:=by
 refine zAW Tryz.func122 Tryz.ntmps122 J (rs:=[.tmp 3]) J J fun w0 X hX=>?_
 refine sq<|rg<|O ob<|V va<|nl<|an<|sq<|rg<|V vfp<|V vlp<|V vlr<|V ves<|V va<|?_
 obtain rfl:=Option.some.inj hr
 exact nl<|an<|cr<|zAk (l':=[(3,.bool (decide (p0.1=p1)))]) (zAA hX [] 4 J J wS trivial) J ⟨rfl,trivial⟩
theorem f108_runs {p0:Option (ZS)}{p1:Str}{r:Int}(hr:f108 p0 p1=some r) : zBb Tryz.prog 108 [.pd Y2 p0,.str p1] [.i r]:=by
 refine zAW Tryz.func108 Tryz.ntmps108 J (rs:=[.tmp 4]) J J fun w0 X hX=>?_
 obtain ⟨x1,e2,hr⟩:=zA hr
 obtain ⟨x3,e4,hr⟩:=zA hr
 refine sq<|rg<|O ob<|V va<|nl<|an<|sq<|rg<|V vm<|?_
 refine V (zCJ (t:=Y2) (y:=x1) J e2)<|V vfr<|V vlr<|?_
 refine V (zA4 (us:=[]) (vs:=[.ptr 0 0]) J J)<|?_
 refine V (zAj (as':=[.sl Y1 x1.2,.fn 122 [] [.ptr 0 0]]) (f112_runs (q1:=(fun y1=>f122 y1 p1)) (g1:=122) (c1s:=[.rp [.str p1]]) (fun _ r h=>(have h2:=f122_runs h; h2)) ⟨ent122⟩ e4).x ent112 J ⟨cv0,(cv3 J),trivial⟩ J J)<|V va<|?_
 obtain rfl:=Option.some.inj hr
 exact nl<|an<|cr<|zAk (l':=[(4,.i x3)]) (zAA hX [] 4 J J wS trivial) J ⟨rfl,trivial⟩
theorem f64_runs {p0:ZW}{p1:Int}{p2:Str}{p3:List Str}{r:Int×List Int}(hr:f64 p0 p1 p2 p3=some r) : Runs Tryz.prog 64 [.rp (D76 p0),.i p1,.str p2,.sl .str p3] [] (fun q Hq=>q=[.osl 0,.i r.1]∧Hq=[.sl 3 .i r.2]):=by
 refine zAW Tryz.func64 Tryz.ntmps64 J (rs:=[.tmp 8,.tmp 9]) J J fun w0 X hX=>?_
 refine sq<|rg<|V va<|V va<|nl<|an<|sq<|bl<|sq<|?_
 obtain ⟨h2,hr⟩:=zAN hr
 obtain ⟨h3,hr⟩:=zAN hr
 refine zAa [0,1,2,3,8,9] [(true,.rp (D76 p0)),(true,.bool false),(true,.bool false),(!false,.str p2),(!false,.bool ((f73 p2).getD default)),(!false,.bool (!((f73 p2).getD default))),(true,.bool (false||(!((f73 p2).getD default)))),(true,.bool (false||(!((f73 p2).getD default)))),(!(false||(!((f73 p2).getD default))),.sl .str p3),(!(false||(!((f73 p2).getD default))),.bool ((f106 p3 (fun y1=>f107 y1)).getD default)),(true,.bool ((false||(!((f73 p2).getD default)))||((f106 p3 (fun y1=>f107 y1)).getD default))),(true,.bool ((false||(!((f73 p2).getD default)))||((f106 p3 (fun y1=>f107 y1)).getD default)))] [[],[0],[1],[2],[3,2],[4,2],[5,2],[6],[7],[8,7],[9,7],[10]] [11] J J J J J ⟨oB wm,zAr J (fun hg=>zAD ⟨rfl,trivial⟩) (fun hg=>zCj (undX 26 J) J J),oB wm,oB wm,zAr ⟨rfl,rfl,rfl,_,rfl,rfl⟩ (fun hg=>zAD ⟨hg,rfl,trivial⟩) (fun hg=>zAV (f73_runs (zAz h2 hg)).x ent73 J J),oB wno,zBr,oB wm,oB wm,zAr ⟨rfl,rfl,rfl,_,rfl,rfl⟩ (fun hg=>zAD ⟨hg,rfl,trivial⟩) (fun hg=>av_callN (as':=[.sl .str p3,.fn 107 [] []]) (f106_runs (q1:=(fun y1=>f107 y1)) (g1:=107) (c1s:=[]) (fun _ r h=>(have h2:=f107_runs h; h2)) ⟨ent107⟩ (zAz h3 hg)).x ent106 J ⟨cv0,(cv3 J),trivial⟩ J),zBr,oB wa,trivial⟩ (zAD ⟨rfl,trivial⟩) ?_
 refine an<|?_
 refine cnd (fun hc4 hr=>?_) (fun hc4 hr=>?_)
 ·refine sq<|rg<|V va<|V va<|?_
  obtain rfl:=Option.some.inj hr
  exact nl<|an<|cr<|zAE (zAC (zAe (l':=[(8,.osl 0),(9,.i 1)]) (Hs:=[(0,.sl 3 .i ([] : List Int))]) (n:=1) (Wk.trans (zAt (t:=8) 3 .i J) (zAA hX [0] 4 J J wS wO)) J J J ⟨rfl,rfl,trivial⟩))
 refine sq<|rg<|V vm<|V vls<|V va<|nl<|an<|?_
 refine cnd (fun hc5 hr=>?_) (fun hc5 hr=>?_)
 ·refine sq<|rg<|V va<|V va<|?_
  obtain rfl:=Option.some.inj hr
  exact nl<|an<|cr<|zAE (zAC (zAe (l':=[(8,.osl 0),(9,.i 7)]) (Hs:=[(0,.sl 3 .i ([] : List Int))]) (n:=1) (Wk.trans (zAt (t:=8) 3 .i J) (zAA hX [0] 4 J J wS wO)) J J J ⟨rfl,rfl,trivial⟩))
 obtain ⟨x6,e7,hr⟩:=zA hr
 refine sk<|bn<|an<|sq<|rg<|V vm<|V vm<|?_
 refine V (zAV (f75_runs e7).x ent75 J J)<|V va<|nl<|an<|sq<|sq<|rg<|V vm<|?_
 refine V (av_eqnil_pd (undX 117 J) J J)<|nl<|an<|?_
 refine cnd (fun hc8 hr=>?_) (fun hc8 hr=>?_)
 ·refine sq<|rg<|V va<|V va<|?_
  obtain rfl:=Option.some.inj hr
  exact nl<|an<|cr<|zAC (zAe (l':=[(8,.osl 0),(9,.i 5)]) (Hs:=[(0,.sl 3 .i ([] : List Int))]) (n:=1) (Wk.trans (zAt (t:=8) 3 .i J) (zAA hX [0] 4 J J wS wO)) J J J ⟨rfl,rfl,trivial⟩)
 obtain ⟨o14,e15,hr⟩:=zA hr
 refine sk<|an<|sq<|rg<|V va<|nl<|an<|sq<|sq<|rg<|V vm<|V vnl<|V vm<|nl<|an<|bl<|?_
 refine zAb (t:=3) J (fun hl=>?_)
 refine zAI (List.length p3 : Int) (f64_b0 p3 x6) (fun p=>match p with | (i9,s11)=>(⟨[(0,.rp (D76 p0)),(1,.i p1),(8,.nils),(9,.i 0),(10,.pd Y2 x6),(11,.osl 0),(35,.sl .str p3),(36,.i (List.length p3 : Int)),(37,.i i9)],[(0,.sl 3 .i s11)],1⟩ : AS)) (fun o e st=>match o with | .inl s11=>e=.exit 1∧Wk X st ⟨[(0,.rp (D76 p0)),(1,.i p1),(8,.nils),(9,.i 0),(11,.osl 0)],[(0,.sl 3 .i s11)],1⟩ | .inr ()=>e=.ret∧Wk X st ⟨[(8,.nils),(9,.i 5)],[],0⟩) (zAf hl) e15 (Wk.trans (zAt (t:=11) 3 .i J) (by exact zAA hX [0] 4 J J wS wO)) ?_ ?_
 ·intro e st hx
  rcases o14 with s11 | _
  ·obtain ⟨rfl,hw⟩:=hx
   obtain ⟨x16,e17,hr⟩:=zA hr
   refine bh<|an<|(zAY hw)<|sq<|rg<|V vm<|V vm<|V vm<|?_
   refine V (zAM (t:=.i) (qs:=[(0,[.i p1])]) (ys:=[p1]) bs33 J J J J J J J J)<|?_
   refine V (zAV (f50_runs e17).x ent50 J J)<|V va<|V va<|?_
   obtain rfl:=Option.some.inj hr
   exact nl<|an<|cr<|zAe (l':=[(8,.osl 0),(9,.i x16)]) (Hs:=[(0,.sl 3 .i s11)]) (n:=1) (zAA hX [0] 4 J J wS wO) J J J ⟨rfl,rfl,trivial⟩
  obtain ⟨rfl,hw⟩:=hx
  obtain rfl:=Option.some.inj hr
  exact zAE (zAC (zAe (l':=[(8,.osl 0),(9,.i 5)]) (Hs:=[(0,.sl 3 .i ([] : List Int))]) (n:=1) (Wk.trans hw (Wk.trans (zAt (t:=8) 3 .i J) (zAA hX [0] 4 J J wS wO))) J J J ⟨rfl,rfl,trivial⟩))
 rintro i9 s11 o ho
 refine sq<|rg<|V vls<|nl<|an<|sq<|?_
 refine zAO (b:=decide (i9 < (List.length p3 : Int))) J (fun hc18=>?_) (fun hc18=>?_)
 ·obtain ⟨q,hr,rfl⟩:=zA7 hc18 ho
  obtain ⟨x19,e20,hr⟩:=zA hr
  obtain ⟨x21,e22,hr⟩:=zA hr
  refine sk<|an<|sq<|bl<|sq<|rg<|V (zAQ (t:=.str) (e:=x19) (undX 139 J) (szX 9 J) J J e20)<|V vlr<|V va<|nl<|an<|sq<|rg<|V vm<|V vm<|?_
  refine V (zAV (f108_runs e22).x ent108 J J)<|V va<|nl<|an<|sq<|sq<|rg<|V vm<|V vls<|nl<|an<|?_
  refine cnd (fun hc23 hr=>?_) (fun hc23 hr=>?_)
  ·refine sq<|rg<|V va<|V va<|?_
   obtain rfl:=Option.some.inj hr
   exact nl<|an<|cr<|zAC (zAE (zAC (⟨rfl,(zAA hX [] 4 J J wS trivial)⟩)))
  refine sk<|an<|rg<|V vm<|V vm<|?_
  refine V (zAM (t:=.i) (qs:=[(0,[.i x21])]) (ys:=[x21]) bs33 J J J J J J J J)<|?_
  obtain ⟨h24,hr⟩:=zAN hr
  refine zAK (zAh J J zCt J J J h24 J ?_)
  refine V va<|nl<|bn<|an<|rg<|V vad<|V vm<|?_
  obtain rfl:=Option.some.inj hr
  exact zAJ ((zAA hX [1] 4 J J wS wO))
 obtain rfl:=zA8 hc18 ho
 exact zAH (zAF (⟨rfl,(zAA hX [0] 4 J J wS wO)⟩))
theorem f19_runs {p0:ZW}{p1:Int}{p2:Str}{p3:Str}{r:Int×List Int}(hr:f19 p0 p1 p2 p3=some r) : Runs Tryz.prog 19 [.rp (D76 p0),.i p1,.str p2,.str p3] [] (fun q Hq=>q=[.osl 0,.i r.1]∧Hq=[.sl 3 .i r.2]):=by
 refine runs_wM Tryz.func19 Tryz.ntmps19 J (rs:=[.tmp 8,.tmp 9]) J J J fun w0 X hX hxe=>?_
 obtain ⟨x2,e3,hr⟩:=zA hr
 refine sq<|rg<|V va<|V va<|nl<|an<|sq<|rg<|V vm<|V vm<|V vm<|V vm<|?_
 refine V (zAM (t:=.str) (qs:=[(0,[.str p3])]) (ys:=[p3]) bs139 J J J J J J J J)<|?_
 refine zAK (zAP (σ:=[]) (as':=[.rp (D76 p0),.i p1,.str p2,.sl .str [p3]]) (f64_runs e3).x ent64 J ⟨cv0,cv0,cv0,cv0,trivial⟩ J J J ?_)
 refine V vm<|V vx<|V vx<|V va<|V va<|nl<|an<|sq<|sq<|rg<|V vm<|V vne<|nl<|an<|?_
 refine cnd (fun hc4 hr=>?_) (fun hc4 hr=>?_)
 ·refine sq<|rg<|V vm<|V va<|V va<|?_
  obtain rfl:=Option.some.inj hr
  exact nl<|an<|cr<|zAC (zAe (l':=[(8,.osl 0),(9,.i x2.1)]) (Hs:=[(0,.sl 3 .i ([] : List Int))]) (n:=1) (Wk.trans (zAt (t:=8) 3 .i J) (zAA hX [1] 4 J J wS wO)) J J J ⟨rfl,rfl,trivial⟩)
 obtain ⟨x5,e6,hr⟩:=zA hr
 obtain ⟨x7,e8,hr⟩:=zA hr
 obtain ⟨o15,e16,hr⟩:=zA hr
 refine sk<|an<|sq<|rg<|O oa<|nl<|an<|sq<|sq<|rg<|V vm<|V vm<|V vm<|V vm<|?_
 refine V (zAn (t:=.i) (undX 33 J) (szX 3 J) J J J e6)<|?_
 refine V (zAu (tsX 3 J) J J J (zCM e6) J)<|?_
 refine V (zAV (f65_runs e8).x ent65 J J)<|nl<|an<|bl<|?_
 refine zAY (st':=⟨[(8,.nils),(9,.i 0),(12,.ptr 0 0),(32,.fn 109 [] [.rp [.rp (D76 p0)],.rp [.str p2],.rp [.i x5],.rp [.i p1]])],[(0,.var 33 [.osl 1]),(1,.sl 3 .i ([] : List Int))],2⟩) (Wk.trans (wk_ownC (i:=1) (o:=0) 3 .i rfl rfl rfl) (zAA hX [1,2] 4 rfl rfl wS wO)) (awc_rangeX (σ:=List Int) (α:=Int×(Int×Str×List Int)) (R:=Unit) [.rp [.rp (D76 p0)],.rp [.str p2],.rp [.i x5],.rp [.i p1]] [] 1 (f19_b0) (fun x=>[.i x.1,.agg [.i x.2.1,.str x.2.2.1,.sl .i x.2.2.2]]) [(8,.nils),(9,.i 0),(12,.ptr 0 0),(32,.fn 109 [] [.rp [.rp (D76 p0)],.rp [.str p2],.rp [.i x5],.rp [.i p1]])] (fun p=>match p with | s11=>([(0,.var 33 [.osl 1]),(1,.sl 3 .i s11)] : AH)) (fun _=>[]) (fun _=>.ret) 2 (fun _=>0) [] rfl rfl hxe rfl ent109 rfl rfl (fun _=>rfl) rfl (by rw [hX]; rfl) rfl rfl rfl rfl (fun L G Gx hY hYx=>f109_iter (q:=f19_b0) e16 hY hYx) ?_ (fun r=>rfl) ?_ ?_)
 ·intro w0 L X ex hm hX hxe
  rintro s11 ⟨y17,y18⟩ s' hr
  refine rg<|V va<|nl<|?_
  refine ranged<|?_
  intro w0 X ex hm hX hxe
  refine bl<|rg<|V vlp<|V vm<|?_
  refine V (zAM (t:=.i) (qs:=[(0,[.i y17])]) (ys:=[y17]) bs33 J J J J J J J J)<|?_
  obtain ⟨h19,hr⟩:=zAN hr
  refine zAK (zAh J J zCt J J J h19 J ?_)
  refine O os<|?_
  obtain rfl:=Option.some.inj hr
  exact zAJ (zAS (⟨rfl,(zAA hX [0,2] 4 J J trivial wO)⟩))
 ·rintro s11 rfl
  refine bn<|an<|sq<|rg<|V vlp<|V va<|V va<|?_
  obtain rfl:=Option.some.inj hr
  exact nl<|an<|cr<|zAe (l':=[(8,.osl 0),(9,.i 0)]) (Hs:=[(0,.sl 3 .i s11)]) (n:=1) (zAA hX [1] 4 J J wS wO) J J J ⟨rfl,rfl,trivial⟩
 rintro r rfl
 exact absurd hr (by simp)
theorem f114_runs {p0:ZS}{p1:Str}{r:Int×Bool}(hr:f114 p0 p1=some r) : zBb Tryz.prog 114 [.agg [.str p0.1,.sl Y1 p0.2],.str p1] [.i r.1,.bool r.2]:=by
 refine zAW Tryz.func114 Tryz.ntmps114 J (rs:=[.tmp 4,.tmp 5]) J J fun w0 X hX=>?_
 obtain ⟨o4,e5,hr⟩:=zA hr
 refine sq<|rg<|O ob<|V va<|V va<|nl<|an<|sq<|sq<|rg<|V vfp<|V vlp<|V vnl<|V vm<|nl<|an<|bl<|?_
 refine zAb (t:=9) J (fun hl=>?_)
 refine zAI (List.length p0.2 : Int) (f114_b0 p0 p1) (fun p=>match p with | (i1,())=>(⟨[(1,.str p1),(4,.i 0),(5,.bool false),(9,.sl Y1 p0.2),(10,.i (List.length p0.2 : Int)),(11,.i i1)],[],0⟩ : AS)) (fun o e st=>match o with | .inl ()=>e=.exit 0∧Wk X st ⟨[(4,.i 0),(5,.bool false)],[],0⟩ | .inr s3=>e=.ret∧Wk X st ⟨[(4,.i s3),(5,.bool true)],[],0⟩) (zAf hl) e5 (by exact zAA hX [] 4 J J wS trivial) ?_ ?_
 ·intro e st hx
  rcases o4 with _ | s3
  ·obtain ⟨rfl,hw⟩:=hx
   refine bh<|an<|(zAY hw)<|sq<|rg<|V va<|V va<|?_
   obtain rfl:=Option.some.inj hr
   exact nl<|an<|cr<|zAk (l':=[(4,.i 0),(5,.bool false)]) (zAA hX [] 4 J J wS trivial) J ⟨rfl,rfl,trivial⟩
  obtain ⟨rfl,hw⟩:=hx
  obtain rfl:=Option.some.inj hr
  exact zAE (zAC (zAk (l':=[(4,.i s3),(5,.bool true)]) (Wk.trans hw (zAA hX [] 4 J J wS trivial)) J ⟨rfl,rfl,trivial⟩))
 rintro i1 _ o ho
 refine sq<|rg<|V vls<|nl<|an<|sq<|?_
 refine zAO (b:=decide (i1 < (List.length p0.2 : Int))) J (fun hc6=>?_) (fun hc6=>?_)
 ·obtain ⟨q,hr,rfl⟩:=zA7 hc6 ho
  obtain ⟨x7,e8,hr⟩:=zA hr
  refine sk<|an<|sq<|bl<|sq<|rg<|V vm<|?_
  refine V (zAQ (t:=Y1) (e:=x7) (undX 45 J) (szX 49 J) J J e8)<|V vlR<|O oa<|V va<|O os<|nl<|an<|sq<|rg<|V vfp<|V vlp<|V vm<|V ves<|nl<|an<|?_
  refine cnd (fun hc9 hr=>?_) (fun hc9 hr=>?_)
  ·refine sq<|rg<|V vm<|V va<|V va<|?_
   obtain rfl:=Option.some.inj hr
   exact nl<|an<|cr<|zAE (zAC (⟨rfl,(zAA hX [] 4 J J wS trivial)⟩))
  refine sk<|bn<|an<|rg<|V vad<|V vm<|?_
  obtain rfl:=Option.some.inj hr
  exact zAJ ((zAA hX [] 4 J J wS trivial))
 obtain rfl:=zA8 hc6 ho
 exact zAH (zAF (⟨rfl,(zAA hX [] 4 J J wS trivial)⟩))
theorem f87_runs {p0:ZR}{p1:Int}{p2:Str}{p3:List Str}{r:Int×List Int}(hr:f87 p0 p1 p2 p3=some r) : Runs Tryz.prog 87 [.rp (R80 p0),.i p1,.str p2,.sl .str p3] [] (fun q Hq=>q=[.osl 0,.i r.1]∧Hq=[.sl 3 .i r.2]):=by
 refine zAW Tryz.func87 Tryz.ntmps87 J (rs:=[.tmp 8,.tmp 9]) J J fun w0 X hX=>?_
 refine sq<|rg<|V va<|V va<|nl<|an<|sq<|sq<|rg<|V vm<|?_
 refine zAK (zBq (t:=.str) (qs:=[(0,[.str p2])]) (ys:=[p2]) bs139 J J J J J J J J ?_)
 refine V vm<|?_
 obtain ⟨h2,hr⟩:=zAN hr
 refine zAK (zAh J J app139 J J J h2 J ?_)
 obtain ⟨o5,e6,hr⟩:=zA hr
 refine V vnL<|V vm<|nl<|an<|bl<|?_
 refine zA5 (i:=1) J J (fun hl=>?_)
 refine zAI (List.length ([p2]++p3) : Int) (f87_b0 p2 p3) (fun p=>match p with | (i3,())=>(⟨[(0,.rp (R80 p0)),(1,.i p1),(2,.str p2),(3,.sl .str p3),(8,.nils),(9,.i 0),(22,.osl 0),(23,.i (List.length ([p2]++p3) : Int)),(24,.i i3)],[(0,.sl 9 .str ([p2]++p3))],1⟩ : AS)) (fun o e st=>match o with | .inl ()=>e=.exit 0∧Wk X st ⟨[(0,.rp (R80 p0)),(1,.i p1),(2,.str p2),(3,.sl .str p3),(8,.nils),(9,.i 0)],[],0⟩ | .inr ()=>e=.ret∧Wk X st ⟨[(8,.nils),(9,.i 1)],[],0⟩) (zAf hl) e6 (by exact zAA hX [1] 4 J J wS wO) ?_ ?_
 ·intro e st hx
  rcases o5 with _ | _
  ·obtain ⟨rfl,hw⟩:=hx
   refine bh<|an<|(zAY hw)<|sq<|sq<|rg<|V vm<|V vls<|nl<|an<|?_
   refine cnd (fun hc7 hr=>?_) (fun hc7 hr=>?_)
   ·refine sq<|rg<|V va<|V va<|?_
    obtain rfl:=Option.some.inj hr
    exact nl<|an<|cr<|zAC (zAe (l':=[(8,.osl 0),(9,.i 7)]) (Hs:=[(0,.sl 3 .i ([] : List Int))]) (n:=1) (Wk.trans (zAt (t:=8) 3 .i J) (zAA hX [0] 4 J J wS wO)) J J J ⟨rfl,rfl,trivial⟩)
   obtain ⟨x8,e9,hr⟩:=zA hr
   refine sk<|an<|sq<|rg<|V vm<|V vm<|?_
   refine V (zAV (f81_runs e9).x ent81 J J)<|V vm<|V vx<|V vx<|O oa<|O os<|V va<|nl<|an<|sq<|sq<|rg<|V vm<|V vno<|nl<|an<|?_
   refine cnd (fun hc10 hr=>?_) (fun hc10 hr=>?_)
   ·refine sq<|rg<|V va<|V va<|?_
    obtain rfl:=Option.some.inj hr
    exact nl<|an<|cr<|zAC (zAe (l':=[(8,.osl 0),(9,.i 5)]) (Hs:=[(0,.sl 3 .i ([] : List Int))]) (n:=1) (Wk.trans (zAt (t:=8) 3 .i J) (zAA hX [1] 4 J J wS wO)) J J J ⟨rfl,rfl,trivial⟩)
   obtain ⟨o16,e17,hr⟩:=zA hr
   refine sk<|an<|sq<|rg<|V va<|nl<|an<|sq<|sq<|rg<|V vm<|V vnl<|V vm<|nl<|an<|bl<|?_
   refine zAb (t:=3) J (fun hl=>?_)
   refine zAI (List.length p3 : Int) (f87_b1 p3 x8) (fun p=>match p with | (i11,s13)=>(⟨[(0,.rp (R80 p0)),(1,.i p1),(8,.nils),(9,.i 0),(12,.ptr 0 0),(14,.osl 1),(42,.sl .str p3),(43,.i (List.length p3 : Int)),(44,.i i11)],[(0,.var 47 [.str x8.1.1,.sl Y1 x8.1.2]),(1,.sl 3 .i s13)],2⟩ : AS)) (fun o e st=>match o with | .inl s13=>e=.exit 2∧Wk X st ⟨[(0,.rp (R80 p0)),(1,.i p1),(8,.nils),(9,.i 0),(14,.osl 0)],[(0,.sl 3 .i s13)],1⟩ | .inr ()=>e=.ret∧Wk X st ⟨[(8,.nils),(9,.i 5)],[],0⟩) (zAf hl) e17 (Wk.trans (zAt (t:=14) 3 .i J) (by exact zAA hX [0,1] 4 J J wS wO)) ?_ ?_
   ·intro e st hx
    rcases o16 with s13 | _
    ·obtain ⟨rfl,hw⟩:=hx
     obtain ⟨x18,e19,hr⟩:=zA hr
     refine bh<|an<|(zAY hw)<|sq<|sq<|rg<|V vm<|V vm<|?_
     refine V (zAV (f82_runs e19).x ent82 J J)<|V vno<|nl<|an<|?_
     refine cnd (fun hc20 hr=>?_) (fun hc20 hr=>?_)
     ·refine sq<|rg<|V va<|V va<|?_
      obtain rfl:=Option.some.inj hr
      exact nl<|an<|cr<|zAC (zAe (l':=[(8,.osl 0),(9,.i 8)]) (Hs:=[(0,.sl 3 .i ([] : List Int))]) (n:=1) (Wk.trans (zAt (t:=8) 3 .i J) (zAA hX [1] 4 J J wS wO)) J J J ⟨rfl,rfl,trivial⟩)
     refine sk<|an<|sq<|rg<|V vm<|V va<|V va<|?_
     obtain rfl:=Option.some.inj hr
     exact nl<|an<|cr<|zAe (l':=[(8,.osl 0),(9,.i 0)]) (Hs:=[(0,.sl 3 .i s13)]) (n:=1) (zAA hX [0] 4 J J wS wO) J J J ⟨rfl,rfl,trivial⟩
    obtain ⟨rfl,hw⟩:=hx
    obtain rfl:=Option.some.inj hr
    exact zAE (zAC (zAe (l':=[(8,.osl 0),(9,.i 5)]) (Hs:=[(0,.sl 3 .i ([] : List Int))]) (n:=1) (Wk.trans hw (Wk.trans (zAt (t:=8) 3 .i J) (zAA hX [0] 4 J J wS wO))) J J J ⟨rfl,rfl,trivial⟩))
   rintro i11 s13 o ho
   refine sq<|rg<|V vls<|nl<|an<|sq<|?_
   refine zAO (b:=decide (i11 < (List.length p3 : Int))) J (fun hc21=>?_) (fun hc21=>?_)
   ·obtain ⟨q,hr,rfl⟩:=zA7 hc21 ho
    obtain ⟨x22,e23,hr⟩:=zA hr
    obtain ⟨x24,e25,hr⟩:=zA hr
    refine sk<|an<|sq<|bl<|sq<|rg<|V (zAQ (t:=.str) (e:=x22) (undX 139 J) (szX 9 J) J J e23)<|V vlr<|V va<|nl<|an<|sq<|rg<|V vlP<|V vm<|?_
    refine V (zAV (f114_runs e25).x ent114 J J)<|V vm<|V vx<|V vx<|V va<|V va<|nl<|an<|sq<|sq<|rg<|V vm<|V vno<|nl<|an<|?_
    refine cnd (fun hc26 hr=>?_) (fun hc26 hr=>?_)
    ·refine sq<|rg<|V va<|V va<|?_
     obtain rfl:=Option.some.inj hr
     exact nl<|an<|cr<|zAC (zAE (zAC (⟨rfl,(zAA hX [] 4 J J wS trivial)⟩)))
    refine sk<|an<|rg<|V vm<|V vm<|?_
    refine V (zAM (t:=.i) (qs:=[(0,[.i x24.1])]) (ys:=[x24.1]) bs33 J J J J J J J J)<|?_
    obtain ⟨h27,hr⟩:=zAN hr
    refine zAK (zAh J J zCt J J J h27 J ?_)
    refine V va<|nl<|bn<|an<|rg<|V vad<|V vm<|?_
    obtain rfl:=Option.some.inj hr
    exact zAJ ((zAA hX [0,2] 4 J J wS wO))
   obtain rfl:=zA8 hc21 ho
   exact zAH (zAF (⟨rfl,(zAA hX [1] 4 J J wS wO)⟩))
  obtain ⟨rfl,hw⟩:=hx
  obtain rfl:=Option.some.inj hr
  exact zAE (zAC (zAe (l':=[(8,.osl 0),(9,.i 1)]) (Hs:=[(0,.sl 3 .i ([] : List Int))]) (n:=1) (Wk.trans hw (Wk.trans (zAt (t:=8) 3 .i J) (zAA hX [0] 4 J J wS wO))) J J J ⟨rfl,rfl,trivial⟩))
 rintro i3 _ o ho
 refine sq<|rg<|V vls<|nl<|an<|sq<|?_
 refine zAO (b:=decide (i3 < (List.length ([p2]++p3) : Int))) J (fun hc28=>?_) (fun hc28=>?_)
 ·obtain ⟨q,hr,rfl⟩:=zA7 hc28 ho
  obtain ⟨x29,e30,hr⟩:=zA hr
  obtain ⟨x31,e32,hr⟩:=zA hr
  refine sk<|an<|sq<|bl<|sq<|rg<|V (zAn (t:=.str) (undX 139 J) (szX 9 J) J J J e30)<|?_
  refine V (zAu (tsX 9 J) J J J (zCM e30) J)<|V va<|nl<|an<|sq<|rg<|V vm<|?_
  refine V (zAV (f80_runs e32).x ent80 J J)<|V vno<|nl<|an<|?_
  refine cnd (fun hc33 hr=>?_) (fun hc33 hr=>?_)
  ·refine sq<|rg<|V va<|V va<|?_
   obtain rfl:=Option.some.inj hr
   exact nl<|an<|cr<|zAE (zAC (⟨rfl,(zAA hX [] 4 J J wS trivial)⟩))
  refine sk<|bn<|an<|rg<|V vad<|V vm<|?_
  obtain rfl:=Option.some.inj hr
  exact zAJ ((zAA hX [0] 4 J J wS wO))
 obtain rfl:=zA8 hc28 ho
 exact zAH (zAF (⟨rfl,(zAA hX [] 4 J J wS trivial)⟩))
theorem f37_runs {p0:ZR}{p1:Int}{p2:Str}{p3:Str}{r:Int×List Int}(hr:f37 p0 p1 p2 p3=some r) : Runs Tryz.prog 37 [.rp (R80 p0),.i p1,.str p2,.str p3] [] (fun q Hq=>q=[.osl 0,.i r.1]∧Hq=[.sl 3 .i r.2]):=by
 refine zAW Tryz.func37 Tryz.ntmps37 J (rs:=[.tmp 8,.tmp 9]) J J fun w0 X hX=>?_
 obtain ⟨x2,e3,hr⟩:=zA hr
 refine sq<|rg<|V va<|V va<|nl<|an<|sq<|rg<|V vm<|V vm<|V vm<|V vm<|?_
 refine V (zAM (t:=.str) (qs:=[(0,[.str p3])]) (ys:=[p3]) bs139 J J J J J J J J)<|?_
 refine zAK (zAP (σ:=[]) (as':=[.rp (R80 p0),.i p1,.str p2,.sl .str [p3]]) (f87_runs e3).x ent87 J ⟨cv0,cv0,cv0,cv0,trivial⟩ J J J ?_)
 refine V vm<|V vx<|V vx<|V va<|V va<|nl<|an<|sq<|sq<|rg<|V vm<|V vne<|nl<|an<|?_
 refine cnd (fun hc4 hr=>?_) (fun hc4 hr=>?_)
 ·refine sq<|rg<|V vm<|V va<|V va<|?_
  obtain rfl:=Option.some.inj hr
  exact nl<|an<|cr<|zAC (zAe (l':=[(8,.osl 0),(9,.i x2.1)]) (Hs:=[(0,.sl 3 .i ([] : List Int))]) (n:=1) (Wk.trans (zAt (t:=8) 3 .i J) (zAA hX [1] 4 J J wS wO)) J J J ⟨rfl,rfl,trivial⟩)
 obtain ⟨o10,e11,hr⟩:=zA hr
 refine sk<|an<|sq<|rg<|V va<|nl<|an<|sq<|sq<|rg<|V vm<|V vnr<|V vfr<|V vlr<|V vnl<|V vm<|nl<|an<|bl<|?_
 refine zAb (t:=30) J (fun hl=>?_)
 refine zAI (List.length p0.2.2.1 : Int) (f37_b0 p0 p1 p2 x2) (fun p=>match p with | (i5,s7)=>(⟨[(1,.i p1),(2,.str p2),(8,.nils),(9,.i 0),(10,.osl 0),(12,.osl 1),(30,.sl Y5 p0.2.2.1),(31,.i (List.length p0.2.2.1 : Int)),(32,.i i5)],[(0,.sl 3 .i x2.2),(1,.sl 3 .i s7)],2⟩ : AS)) (fun o e st=>match o with | .inr _=>False | .inl s7=>e=.exit 0∧Wk X st ⟨[(8,.nils),(9,.i 0),(12,.osl 0)],[(0,.sl 3 .i s7)],1⟩) (zAf hl) e11 (Wk.trans (zAt (t:=12) 3 .i J) (by exact zAA hX [0,1] 4 J J wS wO)) ?_ ?_
 ·intro e st hx
  rcases o10 with s7 | _
  ·obtain ⟨rfl,hw⟩:=hx
   refine bh<|an<|(zAY hw)<|sq<|rg<|V vm<|V va<|V va<|?_
   obtain rfl:=Option.some.inj hr
   exact nl<|an<|cr<|zAe (l':=[(8,.osl 0),(9,.i 0)]) (Hs:=[(0,.sl 3 .i s7)]) (n:=1) (zAA hX [0] 4 J J wS wO) J J J ⟨rfl,rfl,trivial⟩
  exact hx.elim
 rintro i5 s7 o ho
 refine sq<|rg<|V vls<|nl<|an<|sq<|?_
 refine zAO (b:=decide (i5 < (List.length p0.2.2.1 : Int))) J (fun hc12=>?_) (fun hc12=>?_)
 ·obtain ⟨q,hr,rfl⟩:=zA7 hc12 ho
  obtain ⟨o14,e15,hr⟩:=zA hr
  refine sk<|an<|?_
  refine zAy (S:=List Int) (R:=Unit) (fun s=>match s with | s13=>(⟨[(1,.i p1),(2,.str p2),(8,.nils),(9,.i 0),(10,.osl 0),(12,.osl 1),(30,.sl Y5 p0.2.2.1),(31,.i (List.length p0.2.2.1 : Int)),(32,.i i5)],[(0,.sl 3 .i x2.2),(1,.sl 3 .i s13)],2⟩ : AS)) (fun _ _ _=>False) e15 (fun hr=>?_) ?_ ?_
  ·obtain ⟨x16,e17,hr⟩:=zA hr
   refine bl<|sq<|rg<|V (zAQ (t:=Y5) (e:=x16) (undX 78 J) (szX 42 J) J J e17)<|V vlR<|O oa<|O os<|nl<|an<|sq<|?_
   obtain ⟨h18,hr⟩:=zAN hr
   obtain ⟨h19,hr⟩:=zAN hr
   refine zBE mixed [1,2,8,9,10,12,30,31,32,14] [(true,.ptr 2 1),(true,.str x16.2.1),(true,.str p2),(true,.bool (decide (x16.2.1=p2))),(true,.bool (decide (x16.2.1=p2))),(decide (x16.2.1=p2),.ptr 2 2),(decide (x16.2.1=p2),.sl .i x16.2.2),(decide (x16.2.1=p2),.osl 0),(decide (x16.2.1=p2),.ep 0 1 (Int.toNat 0) 0),(decide (x16.2.1=p2),.i ((ix x2.2 0).getD default)),(decide (x16.2.1=p2),.rp [.i ((ix x16.2.2 ((ix x2.2 0).getD default)).getD default)]),(decide (x16.2.1=p2),.i ((ix x16.2.2 ((ix x2.2 0).getD default)).getD default)),(decide (x16.2.1=p2),.i p1),(decide (x16.2.1=p2),.bool (decide (((ix x16.2.2 ((ix x2.2 0).getD default)).getD default)=p1))),(true,.bool ((decide (x16.2.1=p2))&&(decide (((ix x16.2.2 ((ix x2.2 0).getD default)).getD default)=p1))))] [[],[0],[],[1,2],[3],[4],[5,4],[4],[7,4],[8,4],[6,9,4],[10,4],[4],[11,12,4],[13,4]] [14] J J J J J ⟨oB wfp,oB wlp,oB wm,oB wes,oB wm,oB wfp,oB wlp,oB wm,zAr ⟨rfl,rfl,rfl,_,rfl,rfl⟩ (fun hg=>zAD ⟨hg,rfl,trivial⟩) (fun hg=>zAn (t:=.i) (undX 33 J) (szX 3 J) J J J (zAz h18 hg)),zAr ⟨rfl,rfl,rfl,_,rfl,rfl⟩ (fun hg=>zAD ⟨hg,rfl,trivial⟩) (fun hg=>zAu (tsX 3 J) J J J (zCM (zAz h18 hg)) J),zAr ⟨rfl,rfl,rfl,_,rfl,rfl⟩ (fun hg=>zAD ⟨hg,hg,rfl,trivial⟩) (fun hg=>zAQ (t:=.i) (e:=((ix x16.2.2 ((ix x2.2 0).getD default)).getD default)) (undX 33 J) (szX 3 J) J J (zAz h19 hg)),oB wlr,oB wm,oB weq,zBe,trivial⟩ (zAD ⟨rfl,trivial⟩) ?_
   refine an<|?_
   refine cnd (fun hc20 hr=>?_) (fun hc20 hr=>?_)
   ·refine rg<|V vm<|V vfp<|V vlp<|?_
    refine V (zAM (t:=.i) (qs:=[(0,[.i x16.1])]) (ys:=[x16.1]) bs33 J J J J J J J J)<|?_
    obtain ⟨h21,hr⟩:=zAN hr
    refine zAK (zAh J J zCt J J J h21 J ?_)
    refine V va<|?_
    obtain rfl:=Option.some.inj hr
    exact zAJ (zAS ((zAA hX [0,3] 4 J J wS wO)))
   obtain rfl:=Option.some.inj hr
   exact zAv (zAS ((zAA hX [0,1] 4 J J wS wO)))
  ·rintro s13 rfl
   refine rg<|V vad<|V vm<|?_
   obtain rfl:=Option.some.inj hr
   exact zAJ ((zAA hX [0,1] 4 J J wS wO))
  exact fun r h e st hne hx=>hx.elim
 obtain rfl:=zA8 hc12 ho
 exact zAH (zAF (⟨rfl,(zAA hX [1] 4 J J wS wO)⟩))
theorem f38_runs {p0:ZW}{p1:Int}{p2:Str}{p3:Str}{p4:Str}{r:Int×List Int}(hr:f38 p0 p1 p2 p3 p4=some r) : Runs Tryz.prog 38 [.rp (D76 p0),.i p1,.str p2,.str p3,.str p4] [] (fun q Hq=>q=[.osl 0,.i r.1]∧Hq=[.sl 3 .i r.2]):=by
 refine runs_wM Tryz.func38 Tryz.ntmps38 J (rs:=[.tmp 10,.tmp 11]) J J J fun w0 X hX hxe=>?_
 obtain ⟨x2,e3,hr⟩:=zA hr
 refine sq<|rg<|V va<|V va<|nl<|an<|sq<|rg<|V vm<|V vm<|V vm<|V vm<|V vm<|?_
 refine V (zAM (t:=.str) (qs:=[(0,[.str p3]),(1,[.str p4])]) (ys:=[p3,p4]) bs139 J J J J J J J J)<|?_
 refine zAK (zAP (σ:=[]) (as':=[.rp (D76 p0),.i p1,.str p2,.sl .str [p3,p4]]) (f64_runs e3).x ent64 J ⟨cv0,cv0,cv0,cv0,trivial⟩ J J J ?_)
 refine V vm<|V vx<|V vx<|O oa<|O os<|V va<|nl<|an<|sq<|sq<|rg<|V vm<|V vne<|nl<|an<|?_
 refine cnd (fun hc4 hr=>?_) (fun hc4 hr=>?_)
 ·refine sq<|rg<|V vm<|V va<|V va<|?_
  obtain rfl:=Option.some.inj hr
  exact nl<|an<|cr<|zAC (zAe (l':=[(10,.osl 0),(11,.i x2.1)]) (Hs:=[(0,.sl 3 .i ([] : List Int))]) (n:=1) (Wk.trans (zAt (t:=10) 3 .i J) (zAA hX [2] 4 J J wS wO)) J J J ⟨rfl,rfl,trivial⟩)
 obtain ⟨x5,e6,hr⟩:=zA hr
 obtain ⟨x7,e8,hr⟩:=zA hr
 obtain ⟨o15,e16,hr⟩:=zA hr
 refine sk<|an<|sq<|rg<|O oa<|nl<|an<|sq<|sq<|rg<|V vm<|V vm<|V vm<|V vlp<|?_
 refine V (zAn (t:=.i) (undX 33 J) (szX 3 J) J J J e6)<|?_
 refine V (zAu (tsX 3 J) J J J (zCM e6) J)<|?_
 refine V (zAV (f65_runs e8).x ent65 J J)<|nl<|an<|bl<|?_
 refine zAY (st':=⟨[(10,.nils),(11,.i 0),(12,.ptr 0 0),(14,.ptr 1 0),(36,.fn 109 [] [.rp [.rp (D76 p0)],.rp [.str p2],.rp [.i x5],.rp [.i p1]])],[(0,.var 33 [.osl 2]),(1,.var 33 [.osl 3]),(2,.sl 3 .i x2.2),(3,.sl 3 .i ([] : List Int))],4⟩) (Wk.trans (wk_ownC (i:=2) (o:=0) 3 .i rfl rfl rfl) (zAA hX [1,2,0,3] 4 rfl rfl wS wO)) (awc_rangeX (σ:=List Int) (α:=Int×(Int×Str×List Int)) (R:=Unit) [.rp [.rp (D76 p0)],.rp [.str p2],.rp [.i x5],.rp [.i p1]] [] 2 (f38_b0 x2) (fun x=>[.i x.1,.agg [.i x.2.1,.str x.2.2.1,.sl .i x.2.2.2]]) [(10,.nils),(11,.i 0),(12,.ptr 0 0),(14,.ptr 1 0),(36,.fn 109 [] [.rp [.rp (D76 p0)],.rp [.str p2],.rp [.i x5],.rp [.i p1]])] (fun p=>match p with | s11=>([(0,.var 33 [.osl 2]),(1,.var 33 [.osl 3]),(2,.sl 3 .i x2.2),(3,.sl 3 .i s11)] : AH)) (fun _=>[]) (fun _=>.ret) 4 (fun _=>0) [] rfl rfl hxe rfl ent109 rfl rfl (fun _=>rfl) rfl (by rw [hX]; rfl) rfl rfl rfl rfl (fun L G Gx hY hYx=>f109_iter (q:=(f38_b0 x2)) e16 hY hYx) ?_ (fun r=>rfl) ?_ ?_)
 ·intro w0 L X ex hm hX hxe
  rintro s11 ⟨y17,y18⟩ s' hr
  refine rg<|O oa<|O os<|nl<|?_
  refine ranged<|?_
  intro w0 X ex hm hX hxe
  obtain ⟨x19,e20,hr⟩:=zA hr
  obtain ⟨x21,e22,hr⟩:=zA hr
  refine bl<|?_
  refine zB0 9 [9,2,6,4,5,6,7,8,9] mixed [10,11,12,14,38,16] [(true,.osl 3),(true,.ptr 4 2),(true,.sl .i y18.2.2),(true,.osl 2),(true,.ep 2 1 (Int.toNat 1) 0),(true,.i x19),(true,.rp [.i x21]),(true,.i x21),(true,.sl .i [x21])] [[],[],[1],[],[3],[4],[2,5],[6],[7]] [0,8] J J J J J J J J ⟨oB wlp,oB wfp,oB wlp,oB wlp,zAr J (fun hg=>zAD ⟨rfl,trivial⟩) (fun hg=>zAn (t:=.i) (undX 33 J) (szX 3 J) J J J e20),zAr J (fun hg=>zAD ⟨rfl,trivial⟩) (fun hg=>zAu (tsX 3 J) J J J (zCM e20) J),zAr J (fun hg=>zAD ⟨rfl,rfl,trivial⟩) (fun hg=>zAQ (t:=.i) (e:=x21) (undX 33 J) (szX 3 J) J J e22),oB wlr,zAr J (fun hg=>zAD ⟨rfl,trivial⟩) (fun hg=>zAM (t:=.i) (qs:=[(0,[.i x21])]) (ys:=[x21]) bs33 J J J J J J J J),trivial⟩ (zAD ⟨rfl,rfl,trivial⟩) ?_
  obtain ⟨h23,hr⟩:=zAN hr
  refine zAK (zAh J J zCt J J J h23 J ?_)
  refine O os<|?_
  obtain rfl:=Option.some.inj hr
  exact zAJ (zAS (⟨rfl,(zAA hX [0,1,2,5] 4 J J trivial wO)⟩))
 ·rintro s11 rfl
  obtain ⟨x24,e25,hr⟩:=zA hr
  refine bn<|an<|sq<|rg<|V vlp<|?_
  refine zAK (zAP (σ:=[3]) (as':=[.osl 3]) (f88_runs e25).x ent88 J ⟨cv0,trivial⟩ J J J ?_)
  obtain ⟨x26,e27,hr⟩:=zA hr
  refine nl<|an<|sq<|rg<|V vlp<|?_
  refine zAK (zAP (σ:=[3]) (as':=[.osl 3]) (f89_runs e27).x ent89 J ⟨cv0,trivial⟩ J J J ?_)
  refine V va<|V va<|?_
  obtain rfl:=Option.some.inj hr
  exact nl<|an<|cr<|zAe (l':=[(10,.osl 0),(11,.i 0)]) (Hs:=[(0,.sl 3 .i x26)]) (n:=1) (zAA hX [4] 4 J J wS wO) J J J ⟨rfl,rfl,trivial⟩
 rintro r rfl
 exact absurd hr (by simp)
theorem ent117 : Enters Tryz.prog 117:=enters_of Tryz.func117 (by kernel_rfl) rfl
theorem ent90 : Enters Tryz.prog 90:=enters_of Tryz.func90 (by kernel_rfl) rfl
theorem ent91 : Enters Tryz.prog 91:=enters_of Tryz.func91 (by kernel_rfl) rfl
theorem ent35 : Enters Tryz.prog 35:=enters_of Tryz.func35 (by kernel_rfl) rfl
theorem bs52 : BuildS Tryz.prog 52 54 Y4:=zCh (z:=.agg #[.int .i64 0,.int .i64 0,.string ByteArray.empty]) (by kernel_rfl) (by kernel_rfl) rfl
theorem f39_runs {p0:ZR}{p1:Int}{p2:Str}{p3:Str}{p4:Str}{r:Int×List Int}(hr:f39 p0 p1 p2 p3 p4=some r) : Runs Tryz.prog 39 [.rp (R80 p0),.i p1,.str p2,.str p3,.str p4] [] (fun q Hq=>q=[.osl 0,.i r.1]∧Hq=[.sl 3 .i r.2]):=by
 refine zAW Tryz.func39 Tryz.ntmps39 J (rs:=[.tmp 10,.tmp 11]) J J fun w0 X hX=>?_
 obtain ⟨x2,e3,hr⟩:=zA hr
 refine sq<|rg<|V va<|V va<|nl<|an<|sq<|rg<|V vm<|V vm<|V vm<|V vm<|V vm<|?_
 refine V (zAM (t:=.str) (qs:=[(0,[.str p3]),(1,[.str p4])]) (ys:=[p3,p4]) bs139 J J J J J J J J)<|?_
 refine zAK (zAP (σ:=[]) (as':=[.rp (R80 p0),.i p1,.str p2,.sl .str [p3,p4]]) (f87_runs e3).x ent87 J ⟨cv0,cv0,cv0,cv0,trivial⟩ J J J ?_)
 refine V vm<|V vx<|V vx<|V va<|V va<|nl<|an<|sq<|sq<|rg<|V vm<|V vne<|nl<|an<|?_
 refine cnd (fun hc4 hr=>?_) (fun hc4 hr=>?_)
 ·refine sq<|rg<|V vm<|V va<|V va<|?_
  obtain rfl:=Option.some.inj hr
  exact nl<|an<|cr<|zAC (zAe (l':=[(10,.osl 0),(11,.i x2.1)]) (Hs:=[(0,.sl 3 .i ([] : List Int))]) (n:=1) (Wk.trans (zAt (t:=10) 3 .i J) (zAA hX [1] 4 J J wS wO)) J J J ⟨rfl,rfl,trivial⟩)
 obtain ⟨o10,e11,hr⟩:=zA hr
 refine sk<|an<|sq<|rg<|V va<|nl<|an<|sq<|sq<|rg<|V vm<|V vnr<|V vfr<|V vlr<|V vnl<|V vm<|nl<|an<|bl<|?_
 refine zAb (t:=35) J (fun hl=>?_)
 refine zAI (List.length p0.2.1 : Int) (f39_b0 p0 p1 p2 x2) (fun p=>match p with | (i5,s7)=>(⟨[(0,.rp (R80 p0)),(1,.i p1),(2,.str p2),(10,.nils),(11,.i 0),(12,.osl 0),(14,.osl 1),(35,.sl Y4 p0.2.1),(36,.i (List.length p0.2.1 : Int)),(37,.i i5)],[(0,.sl 3 .i x2.2),(1,.sl 3 .i s7)],2⟩ : AS)) (fun o e st=>match o with | .inr _=>False | .inl s7=>e=.exit 0∧Wk X st ⟨[(10,.nils),(11,.i 0),(14,.osl 0)],[(0,.sl 3 .i s7)],1⟩) (zAf hl) e11 (Wk.trans (zAt (t:=14) 3 .i J) (by exact zAA hX [0,1] 4 J J wS wO)) ?_ ?_
 ·intro e st hx
  rcases o10 with s7 | _
  ·obtain ⟨rfl,hw⟩:=hx
   refine bh<|an<|(zAY hw)<|sq<|rg<|V vm<|V va<|V va<|?_
   obtain rfl:=Option.some.inj hr
   exact nl<|an<|cr<|zAe (l':=[(10,.osl 0),(11,.i 0)]) (Hs:=[(0,.sl 3 .i s7)]) (n:=1) (zAA hX [0] 4 J J wS wO) J J J ⟨rfl,rfl,trivial⟩
  exact hx.elim
 rintro i5 s7 o ho
 refine sq<|rg<|V vls<|nl<|an<|sq<|?_
 refine zAO (b:=decide (i5 < (List.length p0.2.1 : Int))) J (fun hc12=>?_) (fun hc12=>?_)
 ·obtain ⟨q,hr,rfl⟩:=zA7 hc12 ho
  obtain ⟨x13,e14,hr⟩:=zA hr
  obtain ⟨o17,e18,hr⟩:=zA hr
  refine sk<|an<|sq<|bl<|sq<|rg<|V (zAQ (t:=Y4) (e:=x13) (undX 52 J) (szX 54 J) J J e14)<|V vlR<|O oa<|O os<|nl<|an<|sq<|rg<|V vm<|V vnr<|V vfr<|V vlr<|V vnl<|V vm<|nl<|an<|bl<|?_
  refine zAb (t:=44) J (fun hl=>?_)
  refine zAI (List.length p0.2.2.1 : Int) (f39_b1 p0 p1 p2 x2 s7 x13) (fun p=>match p with | (i15,())=>(⟨[(0,.rp (R80 p0)),(1,.i p1),(2,.str p2),(10,.nils),(11,.i 0),(12,.osl 0),(14,.osl 1),(16,.ptr 2 0),(35,.sl Y4 p0.2.1),(36,.i (List.length p0.2.1 : Int)),(37,.i i5),(44,.sl Y5 p0.2.2.1),(45,.i (List.length p0.2.2.1 : Int)),(46,.i i15)],[(0,.sl 3 .i x2.2),(1,.sl 3 .i s7),(2,.var 54 [.i x13.1,.i x13.2.1,.str x13.2.2])],3⟩ : AS)) (fun o e st=>match o with | .inl ()=>e=.exit 2∧Wk X st ⟨[(0,.rp (R80 p0)),(1,.i p1),(2,.str p2),(10,.nils),(11,.i 0),(12,.osl 0),(14,.osl 1),(35,.sl Y4 p0.2.1),(36,.i (List.length p0.2.1 : Int)),(37,.i i5)],[(0,.sl 3 .i x2.2),(1,.sl 3 .i s7)],2⟩ | .inr ()=>e=.exit 2∧Wk X st ⟨[(0,.rp (R80 p0)),(1,.i p1),(2,.str p2),(10,.nils),(11,.i 0),(12,.osl 0),(14,.osl 1),(35,.sl Y4 p0.2.1),(36,.i (List.length p0.2.1 : Int)),(37,.i i5)],[(0,.sl 3 .i x2.2),(1,.sl 3 .i (s7++[x13.1]))],2⟩) (zAf hl) e18 (by exact zAA hX [0,1,2] 4 J J wS wO) ?_ ?_
  ·intro e st hx
   rcases o17 with _ | _
   ·obtain ⟨rfl,hw⟩:=hx
    refine bh<|bn<|an<|(zAY hw)<|rg<|V vad<|V vm<|?_
    obtain rfl:=Option.some.inj hr
    exact zAJ ((zAA hX [0,1] 4 J J wS wO))
   obtain ⟨rfl,hw⟩:=hx
   refine bh<|bn<|an<|(zAY hw)<|rg<|V vad<|V vm<|?_
   obtain rfl:=Option.some.inj hr
   exact zAJ ((zAA hX [0,1] 4 J J wS wO))
  rintro i15 _ o ho
  refine sq<|rg<|V vls<|nl<|an<|sq<|?_
  refine zAO (b:=decide (i15 < (List.length p0.2.2.1 : Int))) J (fun hc19=>?_) (fun hc19=>?_)
  ·obtain ⟨q,hr,rfl⟩:=zA7 hc19 ho
   obtain ⟨x20,e21,hr⟩:=zA hr
   refine sk<|an<|sq<|bl<|sq<|rg<|V (zAQ (t:=Y5) (e:=x20) (undX 78 J) (szX 42 J) J J e21)<|V vlR<|O oa<|O os<|nl<|an<|sq<|?_
   obtain ⟨h22,hr⟩:=zAN hr
   obtain ⟨h23,hr⟩:=zAN hr
   obtain ⟨h24,hr⟩:=zAN hr
   obtain ⟨h25,hr⟩:=zAN hr
   refine zBE mixed [0,1,2,10,11,12,14,16,35,36,37,44,45,46,18] [(true,.ptr 3 1),(true,.str x20.2.1),(true,.str p2),(true,.bool (decide (x20.2.1=p2))),(true,.bool (decide (x20.2.1=p2))),(decide (x20.2.1=p2),.ptr 3 2),(decide (x20.2.1=p2),.sl .i x20.2.2),(decide (x20.2.1=p2),.osl 0),(decide (x20.2.1=p2),.ep 0 1 (Int.toNat 0) 0),(decide (x20.2.1=p2),.i ((ix x2.2 0).getD default)),(decide (x20.2.1=p2),.rp [.i ((ix x20.2.2 ((ix x2.2 0).getD default)).getD default)]),(decide (x20.2.1=p2),.i ((ix x20.2.2 ((ix x2.2 0).getD default)).getD default)),(decide (x20.2.1=p2),.i p1),(decide (x20.2.1=p2),.bool (decide (((ix x20.2.2 ((ix x2.2 0).getD default)).getD default)=p1))),(true,.bool ((decide (x20.2.1=p2))&&(decide (((ix x20.2.2 ((ix x2.2 0).getD default)).getD default)=p1)))),(true,.bool ((decide (x20.2.1=p2))&&(decide (((ix x20.2.2 ((ix x2.2 0).getD default)).getD default)=p1)))),((decide (x20.2.1=p2))&&(decide (((ix x20.2.2 ((ix x2.2 0).getD default)).getD default)=p1)),.ptr 3 2),((decide (x20.2.1=p2))&&(decide (((ix x20.2.2 ((ix x2.2 0).getD default)).getD default)=p1)),.sl .i x20.2.2),((decide (x20.2.1=p2))&&(decide (((ix x20.2.2 ((ix x2.2 0).getD default)).getD default)=p1)),.osl 0),((decide (x20.2.1=p2))&&(decide (((ix x20.2.2 ((ix x2.2 0).getD default)).getD default)=p1)),.ep 0 1 (Int.toNat 1) 0),((decide (x20.2.1=p2))&&(decide (((ix x20.2.2 ((ix x2.2 0).getD default)).getD default)=p1)),.i ((ix x2.2 1).getD default)),((decide (x20.2.1=p2))&&(decide (((ix x20.2.2 ((ix x2.2 0).getD default)).getD default)=p1)),.rp [.i ((ix x20.2.2 ((ix x2.2 1).getD default)).getD default)]),((decide (x20.2.1=p2))&&(decide (((ix x20.2.2 ((ix x2.2 0).getD default)).getD default)=p1)),.i ((ix x20.2.2 ((ix x2.2 1).getD default)).getD default)),((decide (x20.2.1=p2))&&(decide (((ix x20.2.2 ((ix x2.2 0).getD default)).getD default)=p1)),.ptr 2 0),((decide (x20.2.1=p2))&&(decide (((ix x20.2.2 ((ix x2.2 0).getD default)).getD default)=p1)),.i x13.1),((decide (x20.2.1=p2))&&(decide (((ix x20.2.2 ((ix x2.2 0).getD default)).getD default)=p1)),.bool (decide (((ix x20.2.2 ((ix x2.2 1).getD default)).getD default)=x13.1))),(true,.bool (((decide (x20.2.1=p2))&&(decide (((ix x20.2.2 ((ix x2.2 0).getD default)).getD default)=p1)))&&(decide (((ix x20.2.2 ((ix x2.2 1).getD default)).getD default)=x13.1))))] [[],[0],[],[1,2],[3],[4],[5,4],[4],[7,4],[8,4],[6,9,4],[10,4],[4],[11,12,4],[13,4],[14],[15],[16,15],[15],[18,15],[19,15],[17,20,15],[21,15],[15],[23,15],[22,24,15],[25,15]] [26] J J J J J ⟨oB wfp,oB wlp,oB wm,oB wes,oB wm,oB wfp,oB wlp,oB wm,zAr ⟨rfl,rfl,rfl,_,rfl,rfl⟩ (fun hg=>zAD ⟨hg,rfl,trivial⟩) (fun hg=>zAn (t:=.i) (undX 33 J) (szX 3 J) J J J (zAz h22 hg)),zAr ⟨rfl,rfl,rfl,_,rfl,rfl⟩ (fun hg=>zAD ⟨hg,rfl,trivial⟩) (fun hg=>zAu (tsX 3 J) J J J (zCM (zAz h22 hg)) J),zAr ⟨rfl,rfl,rfl,_,rfl,rfl⟩ (fun hg=>zAD ⟨hg,hg,rfl,trivial⟩) (fun hg=>zAQ (t:=.i) (e:=((ix x20.2.2 ((ix x2.2 0).getD default)).getD default)) (undX 33 J) (szX 3 J) J J (zAz h23 hg)),oB wlr,oB wm,oB weq,zBe,oB wm,oB wfp,oB wlp,oB wm,zAr ⟨rfl,rfl,rfl,_,rfl,rfl⟩ (fun hg=>zAD ⟨hg,rfl,trivial⟩) (fun hg=>zAn (t:=.i) (undX 33 J) (szX 3 J) J J J (zAz h24 hg)),zAr ⟨rfl,rfl,rfl,_,rfl,rfl⟩ (fun hg=>zAD ⟨hg,rfl,trivial⟩) (fun hg=>zAu (tsX 3 J) J J J (zCM (zAz h24 hg)) J),zAr ⟨rfl,rfl,rfl,_,rfl,rfl⟩ (fun hg=>zAD ⟨hg,hg,rfl,trivial⟩) (fun hg=>zAQ (t:=.i) (e:=((ix x20.2.2 ((ix x2.2 1).getD default)).getD default)) (undX 33 J) (szX 3 J) J J (zAz h25 hg)),oB wlr,oB wfp,oB wlp,oB weq,zBe,trivial⟩ (zAD ⟨rfl,trivial⟩) ?_
   refine an<|?_
   refine cnd (fun hc26 hr=>?_) (fun hc26 hr=>?_)
   ·refine sq<|rg<|V vm<|V vfp<|V vlp<|?_
    refine V (zAM (t:=.i) (qs:=[(0,[.i x13.1])]) (ys:=[x13.1]) bs33 J J J J J J J J)<|?_
    obtain ⟨h27,hr⟩:=zAN hr
    refine zAK (zAh J J zCt J J J h27 J ?_)
    refine V va<|?_
    obtain rfl:=Option.some.inj hr
    exact zAJ (zAZ (zAH ((zBF J) (zAF (⟨rfl,(zAA hX [0,4] 4 J J wS wO)⟩)))))
   refine sk<|bn<|an<|rg<|V vad<|V vm<|?_
   obtain rfl:=Option.some.inj hr
   exact zAJ ((zAA hX [0,1,2] 4 J J wS wO))
  obtain rfl:=zA8 hc19 ho
  exact zAH (zAF (⟨rfl,(zAA hX [0,1] 4 J J wS wO)⟩))
 obtain rfl:=zA8 hc12 ho
 exact zAH (zAF (⟨rfl,(zAA hX [1] 4 J J wS wO)⟩))
theorem f12_runs {p0_0:ZW}{p1:Int}{p2:Int}{r:List Int×List Int×List Int×Int}(hr:f12 p0_0 p1 p2=some r) : Runs Tryz.prog 12 [.ptr 0 0,.i p1,.i p2] [.tr E76 (some p0_0)] (fun q Hq=>q=[.sl .i r.1,.sl .i r.2.1,.sl .i r.2.2.1,.i r.2.2.2]∧Hq=[.tr E76 (some p0_0)]):=by
 refine zAW Tryz.func12 Tryz.ntmps12 J (rs:=[.tmp 6,.tmp 7,.tmp 8,.tmp 9]) J J fun w0 X hX=>?_
 refine sq<|rg<|V va<|V va<|V va<|V va<|nl<|an<|sq<|bl<|sq<|rg<|V vm<|?_
 refine V (av_ptrnil (undX 26 J) J J)<|V va<|nl<|an<|?_
 refine zA3 rfl<|sq<|?_
 obtain ⟨h1,hr⟩:=zAN hr
 refine zAa [0,1,2,6,7,8,9] [(true,.i p2),(true,.bool (decide (p2 < 1))),(true,.bool (decide (p2 < 1))),(!(decide (p2 < 1)),.i p2),(!(decide (p2 < 1)),.agg [.fn 94 [] [],.fn 95 [] [],.fn 96 [] []]),(!(decide (p2 < 1)),.i 3),(!(decide (p2 < 1)),.bool (decide (3 < p2))),(true,.bool ((decide (p2 < 1))||(decide (3 < p2)))),(true,.bool ((decide (p2 < 1))||(decide (3 < p2))))] [[],[0],[1],[2],[2],[2],[3,5,2],[6,2],[7]] [8] J J J J J ⟨oB wm,oB wls,oB wm,oB wm,zAr ⟨rfl,rfl,rfl,_,rfl,rfl⟩ (fun hg=>zAD ⟨rfl,trivial⟩) (fun hg=>zAV (f49_runs (zAz h1 hg)).x ent49 J J),oB wm,oB wgt,zBr,oB wa,trivial⟩ (zAD ⟨rfl,trivial⟩) ?_
 refine an<|?_
 refine cnd (fun hc2 hr=>?_) (fun hc2 hr=>?_)
 ·refine sq<|rg<|V va<|V va<|V va<|V va<|?_
  obtain rfl:=Option.some.inj hr
  exact nl<|an<|cr<|zAE (zAC (zAe (l':=[(6,.sl .i ([] : List Int)),(7,.sl .i ([] : List Int)),(8,.sl .i ([] : List Int)),(9,.i 7)]) (Hs:=[(0,.tr E76 (some p0_0))]) (n:=1) (zAA hX [0] 4 J J ⟨⟨_,rfl,cv2⟩,⟨_,rfl,cv2⟩,⟨_,rfl,cv2⟩,⟨_,rfl,cv0⟩,trivial⟩ wO) J J J ⟨rfl,rfl,rfl,rfl,trivial⟩))
 obtain ⟨x3,e4,hr⟩:=zA hr
 refine sk<|bn<|an<|sq<|sq<|rg<|V vm<|V vm<|?_
 refine V (zAM (t:=.i) (qs:=[(0,[.i p1])]) (ys:=[p1]) bs33 J J J J J J J J)<|?_
 refine zAG (zAd (i:=0) (W76 p0_0 1 2) [.map .i Y4 p0_0.2.1,.map .i Y5 p0_0.2.2.1] J J J J)<|V (zAj (as':=[.ptr 0 0,.sl .i [p1]]) (f50_runs e4).x ent50 J ⟨cv0,cv0,trivial⟩ J J)<|V va<|nl<|an<|sq<|rg<|V vm<|V vne<|nl<|an<|?_
 refine cnd (fun hc5 hr=>?_) (fun hc5 hr=>?_)
 ·refine sq<|rg<|V vm<|V va<|V va<|V va<|V va<|?_
  obtain rfl:=Option.some.inj hr
  exact nl<|an<|cr<|zAC (zAe (l':=[(6,.sl .i ([] : List Int)),(7,.sl .i ([] : List Int)),(8,.sl .i ([] : List Int)),(9,.i x3)]) (Hs:=[(0,.tr E76 (some p0_0))]) (n:=1) (Wk.trans (pk (i:=0) (e:=F76) (js:=[1,2]) p0_0) (zAA hX [0] 4 J J ⟨⟨_,rfl,cv2⟩,⟨_,rfl,cv2⟩,⟨_,rfl,cv2⟩,⟨_,rfl,cv0⟩,trivial⟩ wO)) J J J ⟨rfl,rfl,rfl,rfl,trivial⟩)
 obtain ⟨x6,e7,hr⟩:=zA hr
 refine sk<|an<|sq<|rg<|V vm<|V vm<|V vm<|?_
 refine zAK (zAp (as':=[.ptr 0 0,.i p1,.i p2]) (f51_runs e7).x ent51 J ⟨cv0,cv0,cv0,trivial⟩ J J J ?_)
 obtain ⟨x8,e9,hr⟩:=zA hr
 obtain ⟨x10,e11,hr⟩:=zA hr
 obtain ⟨x12,e13,hr⟩:=zA hr
 refine O oa<|O os<|nl<|an<|sq<|?_
 refine zBE mixed [11] [(true,.ptr 6 0),(true,.map 3),(true,.sl .i x8),(true,.ptr 6 1),(true,.map 4),(true,.sl .i x10),(true,.ptr 6 2),(true,.map 5),(true,.sl .i x12),(true,.sl .i x8),(true,.sl .i x10),(true,.sl .i x12),(true,.i 0)] [[],[0],[1],[],[3],[4],[],[6],[7],[2],[5],[8],[]] [9,10,11,12] J J J J J ⟨oB wfp,oB wlp,zAr J (fun hg=>zAD ⟨rfl,trivial⟩) (fun hg=>zBD (as':=[.map 3]) (Hs:=[.sl 3 .i x8]) (zCU e9).x ent52 J ⟨cv0,trivial⟩ J J J),oB wfp,oB wlp,zAr J (fun hg=>zAD ⟨rfl,trivial⟩) (fun hg=>zBD (as':=[.map 4]) (Hs:=[.sl 3 .i x10]) (zCU e11).x ent52 J ⟨cv0,trivial⟩ J J J),oB wfp,oB wlp,zAr J (fun hg=>zAD ⟨rfl,trivial⟩) (fun hg=>zBD (as':=[.map 5]) (Hs:=[.sl 3 .i x12]) (zCU e13).x ent52 J ⟨cv0,trivial⟩ J J J),oB wa,oB wa,oB wa,oB wa,trivial⟩ (zAD ⟨rfl,rfl,rfl,rfl,trivial⟩) ?_
 obtain rfl:=Option.some.inj hr
 exact zAZ (zAw (zAe (l':=[(6,.sl .i x8),(7,.sl .i x10),(8,.sl .i x12),(9,.i 0)]) (Hs:=[(0,.tr E76 (some p0_0))]) (n:=1) (Wk.trans (pk (i:=0) (e:=F76) (js:=[1,2]) p0_0) (zAA hX [0] 4 J J wS wO)) J J J ⟨rfl,rfl,rfl,rfl,trivial⟩))
theorem f117_runs {p0:ZO}{p1:Int}{r:Int}(hr:f117 p0 p1=some r) : zBb Tryz.prog 117 [.agg [.str p0.1,.i p0.2.1,.i p0.2.2.1,.i p0.2.2.2.1,.i p0.2.2.2.2.1,.i p0.2.2.2.2.2],.i p1] [.i r]:=by
 refine zAW Tryz.func117 Tryz.ntmps117 J (rs:=[.tmp 4]) J J fun w0 X hX=>?_
 refine sq<|rg<|O ob<|V va<|nl<|an<|sq<|sq<|rg<|V vm<|nl<|an<|bl<|sq<|rg<|V veq<|V va<|nl<|an<|?_
 refine cnd (fun hc1 hr=>?_) (fun hc1 hr=>?_)
 ·refine sq<|rg<|V vfp<|V vlp<|V va<|?_
  obtain rfl:=Option.some.inj hr
  exact nl<|an<|cr<|zAE (zAC (zAk (l':=[(4,.i p0.2.2.2.1)]) (zAA hX [] 4 J J wS trivial) J ⟨rfl,trivial⟩))
 refine sq<|rg<|V veq<|V va<|nl<|an<|?_
 refine cnd (fun hc2 hr=>?_) (fun hc2 hr=>?_)
 ·refine sq<|rg<|V vfp<|V vlp<|V va<|?_
  obtain rfl:=Option.some.inj hr
  exact nl<|an<|cr<|zAE (zAC (zAk (l':=[(4,.i p0.2.2.2.2.1)]) (zAA hX [] 4 J J wS trivial) J ⟨rfl,trivial⟩))
 refine sk<|bn<|an<|sq<|rg<|V vfp<|V vlp<|V va<|?_
 obtain rfl:=Option.some.inj hr
 exact nl<|an<|cr<|zAk (l':=[(4,.i p0.2.2.2.2.2)]) (zAA hX [] 4 J J wS trivial) J ⟨rfl,trivial⟩
theorem f90_runs {p0:ZR}{p1:Int}{p2:Int}{r:List Int×List Int×List Int}(hr:f90 p0 p1 p2=some r) : Runs Tryz.prog 90 [.rp (R80 p0),.i p1,.i p2] [] (fun q Hq=>q=[.osl 0,.osl 1,.osl 2]∧Hq=[.sl 3 .i r.1,.sl 3 .i r.2.1,.sl 3 .i r.2.2]):=by
 refine zAW Tryz.func90 Tryz.ntmps90 J (rs:=[.tmp 6,.tmp 7,.tmp 8]) J J fun w0 X hX=>?_
 refine sq<|rg<|V va<|V va<|V va<|nl<|an<|sq<|rg<|V vm<|?_
 refine zAK (zBq (t:=.i) (qs:=[(0,[.i p1])]) (ys:=[p1]) bs33 J J J J J J J J ?_)
 obtain ⟨o13,e14,hr⟩:=zA hr
 refine V va<|nl<|an<|sq<|rg<|V va<|nl<|an<|sq<|sq<|rg<|V va<|nl<|an<|bl<|?_
 refine awc_loop (S:=Bool×List Int×List Int) (R:=List Int×List Int) (fun p=>match p with | (s4,s5,s6)=>(⟨[(0,.rp (R80 p0)),(2,.i p2),(6,.nils),(7,.nils),(8,.nils),(9,.osl 0),(10,.osl 1),(11,.bool s4)],[(0,.sl 3 .i s5),(1,.sl 3 .i s6)],2⟩ : AS)) (f90_b0 p0 p2) (fun r e st=>match r with | (s11,s12)=>e=.exit 0∧Wk X st ⟨[(0,.rp (R80 p0)),(6,.nils),(7,.nils),(8,.nils),(9,.osl 0),(10,.osl 1)],[(0,.sl 3 .i s11),(1,.sl 3 .i s12)],2⟩) e14 (Wk.trans (zAt (t:=10) 3 .i J) (by exact zAA hX [0,1] 4 J J wS wO)) ?_ ?_
 ·intro e st hx
  obtain ⟨s11,s12⟩:=o13
  obtain ⟨rfl,hw⟩:=hx
  obtain ⟨o22,e23,hr⟩:=zA hr
  refine bh<|an<|(zAY hw)<|sq<|sq<|rg<|V vm<|V vnr<|V vfr<|V vlr<|V vnl<|V vm<|nl<|an<|bl<|?_
  refine zAb (t:=104) J (fun hl=>?_)
  refine zAI (List.length p0.2.1 : Int) (f90_b1 p0 s11 s12) (fun p=>match p with | (i15,s17,s18)=>(⟨[(0,.rp (R80 p0)),(6,.osl 0),(7,.nils),(8,.osl 1),(9,.osl 2),(10,.osl 3),(104,.sl Y4 p0.2.1),(105,.i (List.length p0.2.1 : Int)),(106,.i i15)],[(0,.sl 3 .i s17),(1,.sl 3 .i s18),(2,.sl 3 .i s11),(3,.sl 3 .i s12)],4⟩ : AS)) (fun o e st=>match o with | .inr _=>False | .inl (s17,s18)=>e=.exit 8∧Wk X st ⟨[(0,.rp (R80 p0)),(6,.osl 0),(7,.nils),(8,.osl 1),(10,.osl 2)],[(0,.sl 3 .i s17),(1,.sl 3 .i s18),(2,.sl 3 .i s12)],3⟩) (zAf hl) e23 (Wk.trans (zAt (t:=6) 3 .i J) (Wk.trans (zAt (t:=8) 3 .i J) (by exact zAA hX [2,3,0,1] 4 J J wS wO))) ?_ ?_
  ·intro e st hx
   rcases o22 with ⟨s17,s18⟩ | _
   ·obtain ⟨rfl,hw⟩:=hx
    obtain ⟨o29,e30,hr⟩:=zA hr
    refine bh<|an<|(zAY hw)<|sq<|sq<|rg<|V vm<|V vnr<|V vfr<|V vlr<|V vnl<|V vm<|nl<|an<|bl<|?_
    refine zAb (t:=149) J (fun hl=>?_)
    refine zAI (List.length p0.2.2.1 : Int) (f90_b2 p0 s12) (fun p=>match p with | (i24,s26)=>(⟨[(6,.osl 0),(7,.osl 1),(8,.osl 2),(10,.osl 3),(149,.sl Y5 p0.2.2.1),(150,.i (List.length p0.2.2.1 : Int)),(151,.i i24)],[(0,.sl 3 .i s17),(1,.sl 3 .i s26),(2,.sl 3 .i s18),(3,.sl 3 .i s12)],4⟩ : AS)) (fun o e st=>match o with | .inr _=>False | .inl s26=>e=.exit 12∧Wk X st ⟨[(6,.osl 0),(7,.osl 1),(8,.osl 2)],[(0,.sl 3 .i s17),(1,.sl 3 .i s26),(2,.sl 3 .i s18)],3⟩) (zAf hl) e30 (Wk.trans (zAt (t:=7) 3 .i J) (by exact zAA hX [0,3,1,2] 4 J J wS wO)) ?_ ?_
    ·intro e st hx
     rcases o29 with s26 | _
     ·obtain ⟨rfl,hw⟩:=hx
      refine bh<|an<|(zAY hw)<|sq<|rg<|V vm<|V vm<|V vm<|V va<|V va<|V va<|?_
      obtain rfl:=Option.some.inj hr
      exact nl<|an<|cr<|zAe (l':=[(6,.osl 0),(7,.osl 1),(8,.osl 2)]) (Hs:=[(0,.sl 3 .i s17),(1,.sl 3 .i s26),(2,.sl 3 .i s18)]) (n:=3) (zAA hX [0,1,2] 4 J J wS wO) J J J ⟨rfl,rfl,rfl,trivial⟩
     exact hx.elim
    rintro i24 s26 o ho
    refine sq<|rg<|V vls<|nl<|an<|sq<|?_
    refine zAO (b:=decide (i24 < (List.length p0.2.2.1 : Int))) J (fun hc31=>?_) (fun hc31=>?_)
    ·obtain ⟨q,hr,rfl⟩:=zA7 hc31 ho
     obtain ⟨o33,e34,hr⟩:=zA hr
     refine sk<|an<|?_
     refine zAy (S:=List Int) (R:=Unit) (fun s=>match s with | s32=>(⟨[(6,.osl 0),(7,.osl 1),(8,.osl 2),(10,.osl 3),(149,.sl Y5 p0.2.2.1),(150,.i (List.length p0.2.2.1 : Int)),(151,.i i24)],[(0,.sl 3 .i s17),(1,.sl 3 .i s32),(2,.sl 3 .i s18),(3,.sl 3 .i s12)],4⟩ : AS)) (fun _ _ _=>False) e34 (fun hr=>?_) ?_ ?_
     ·obtain ⟨x35,e36,hr⟩:=zA hr
      obtain ⟨x37,e38,hr⟩:=zA hr
      refine bl<|sq<|rg<|V (zAQ (t:=Y5) (e:=x35) (undX 78 J) (szX 42 J) J J e36)<|V vlR<|O oa<|O os<|nl<|an<|sq<|rg<|V vm<|V vfp<|V vlp<|?_
      refine V (zAj (as':=[.osl 3,.i x35.1]) (zBY e38).x zB9 J ⟨cv0,cv0,trivial⟩ J J)<|nl<|an<|?_
      refine cnd (fun hc39 hr=>?_) (fun hc39 hr=>?_)
      ·refine rg<|V vm<|V vfp<|V vlp<|?_
       refine V (zAM (t:=.i) (qs:=[(0,[.i x35.1])]) (ys:=[x35.1]) bs33 J J J J J J J J)<|?_
       obtain ⟨h40,hr⟩:=zAN hr
       refine zAK (zAh J J zCt J J J h40 J ?_)
       refine V va<|?_
       obtain rfl:=Option.some.inj hr
       exact zAJ (zAS ((zAA hX [0,5,2,3] 4 J J wS wO)))
      obtain rfl:=Option.some.inj hr
      exact zAv (zAS ((zAA hX [0,1,2,3] 4 J J wS wO)))
     ·rintro s32 rfl
      refine rg<|V vad<|V vm<|?_
      obtain rfl:=Option.some.inj hr
      exact zAJ ((zAA hX [0,1,2,3] 4 J J wS wO))
     exact fun r h e st hne hx=>hx.elim
    obtain rfl:=zA8 hc31 ho
    exact zAH (zAF (⟨rfl,(zAA hX [0,1,2] 4 J J wS wO)⟩))
   exact hx.elim
  rintro i15 ⟨s17,s18⟩ o ho
  refine sq<|rg<|V vls<|nl<|an<|sq<|?_
  refine zAO (b:=decide (i15 < (List.length p0.2.1 : Int))) J (fun hc41=>?_) (fun hc41=>?_)
  ·obtain ⟨q,hr,rfl⟩:=zA7 hc41 ho
   obtain ⟨o44,e45,hr⟩:=zA hr
   refine sk<|an<|?_
   refine zAy (S:=List Int×List Int) (R:=Unit) (fun s=>match s with | (s42,s43)=>(⟨[(0,.rp (R80 p0)),(6,.osl 0),(7,.nils),(8,.osl 1),(9,.osl 2),(10,.osl 3),(104,.sl Y4 p0.2.1),(105,.i (List.length p0.2.1 : Int)),(106,.i i15)],[(0,.sl 3 .i s42),(1,.sl 3 .i s43),(2,.sl 3 .i s11),(3,.sl 3 .i s12)],4⟩ : AS)) (fun _ _ _=>False) e45 (fun hr=>?_) ?_ ?_
   ·obtain ⟨x46,e47,hr⟩:=zA hr
    obtain ⟨x48,e49,hr⟩:=zA hr
    refine bl<|sq<|rg<|V (zAQ (t:=Y4) (e:=x46) (undX 52 J) (szX 54 J) J J e47)<|V vlR<|O oa<|O os<|nl<|an<|sq<|sq<|rg<|V vm<|V vfp<|V vlp<|?_
    refine V (zAj (as':=[.osl 2,.i x46.1]) (zBY e49).x zB9 J ⟨cv0,cv0,trivial⟩ J J)<|nl<|an<|?_
    refine cnd (fun hc50 hr=>?_) (fun hc50 hr=>?_)
    ·refine sq<|rg<|V vm<|V vfp<|V vlp<|?_
     refine V (zAM (t:=.i) (qs:=[(0,[.i x46.1])]) (ys:=[x46.1]) bs33 J J J J J J J J)<|?_
     obtain ⟨h51,hr⟩:=zAN hr
     refine zAK (zAh J J zCt J J J h51 J ?_)
     refine V va<|?_
     obtain rfl:=Option.some.inj hr
     exact zAJ (zAZ (zAH (zAF (zAl ((zAA hX [5,1,2,3] 4 J J wS wO))))))
    obtain ⟨o54,e55,hr⟩:=zA hr
    refine sk<|an<|sq<|rg<|V vm<|V vnr<|V vfr<|V vlr<|V vnl<|V vm<|nl<|an<|bl<|?_
    refine zAb (t:=122) J (fun hl=>?_)
    refine zAI (List.length p0.2.2.1 : Int) (f90_b3 p0 s12 s18 x46) (fun p=>match p with | (i52,())=>(⟨[(0,.rp (R80 p0)),(6,.osl 0),(7,.nils),(8,.osl 1),(9,.osl 2),(10,.osl 3),(22,.ptr 4 0),(104,.sl Y4 p0.2.1),(105,.i (List.length p0.2.1 : Int)),(106,.i i15),(122,.sl Y5 p0.2.2.1),(123,.i (List.length p0.2.2.1 : Int)),(124,.i i52)],[(0,.sl 3 .i s17),(1,.sl 3 .i s18),(2,.sl 3 .i s11),(3,.sl 3 .i s12),(4,.var 54 [.i x46.1,.i x46.2.1,.str x46.2.2])],5⟩ : AS)) (fun o e st=>match o with | .inl ()=>e=.exit 10∧Wk X st ⟨[(0,.rp (R80 p0)),(6,.osl 0),(7,.nils),(8,.osl 1),(9,.osl 2),(10,.osl 3),(104,.sl Y4 p0.2.1),(105,.i (List.length p0.2.1 : Int)),(106,.i i15)],[(0,.sl 3 .i s17),(1,.sl 3 .i s18),(2,.sl 3 .i s11),(3,.sl 3 .i s12)],4⟩ | .inr ()=>e=.exit 10∧Wk X st ⟨[(0,.rp (R80 p0)),(6,.osl 0),(7,.nils),(8,.osl 1),(9,.osl 2),(10,.osl 3),(104,.sl Y4 p0.2.1),(105,.i (List.length p0.2.1 : Int)),(106,.i i15)],[(0,.sl 3 .i s17),(1,.sl 3 .i (s18++[x46.1])),(2,.sl 3 .i s11),(3,.sl 3 .i s12)],4⟩) (zAf hl) e55 (by exact zAA hX [0,1,2,3,4] 4 J J wS wO) ?_ ?_
    ·intro e st hx
     rcases o54 with _ | _
     ·obtain ⟨rfl,hw⟩:=hx
      obtain rfl:=Option.some.inj hr
      exact zAl (zAS ((Wk.trans hw (zAA hX [0,1,2,3] 4 J J wS wO))))
     obtain ⟨rfl,hw⟩:=hx
     obtain rfl:=Option.some.inj hr
     exact zAl (zAS ((Wk.trans hw (zAA hX [0,1,2,3] 4 J J wS wO))))
    rintro i52 _ o ho
    refine sq<|rg<|V vls<|nl<|an<|sq<|?_
    refine zAO (b:=decide (i52 < (List.length p0.2.2.1 : Int))) J (fun hc56=>?_) (fun hc56=>?_)
    ·obtain ⟨q,hr,rfl⟩:=zA7 hc56 ho
     obtain ⟨x57,e58,hr⟩:=zA hr
     obtain ⟨x59,e60,hr⟩:=zA hr
     refine sk<|an<|sq<|bl<|sq<|rg<|V (zAQ (t:=Y5) (e:=x57) (undX 78 J) (szX 42 J) J J e58)<|V vlR<|O oa<|O os<|nl<|an<|sq<|?_
     obtain ⟨h61,hr⟩:=zAN hr
     refine zAa [0,6,7,8,9,10,22,104,105,106,122,123,124,24] [(true,.osl 3),(true,.ptr 5 0),(true,.i x57.1),(true,.bool x59),(true,.bool x59),(x59,.ptr 5 2),(x59,.sl .i x57.2.2),(x59,.ptr 4 0),(x59,.i x46.1),(x59,.bool ((f15 x57.2.2 x46.1).getD default)),(true,.bool (x59&&((f15 x57.2.2 x46.1).getD default)))] [[],[],[1],[0,2],[3],[4],[5,4],[4],[7,4],[6,8,4],[9,4]] [10] J J J J J ⟨oB wm,oB wfp,oB wlp,zAr J (fun hg=>zAD ⟨rfl,rfl,trivial⟩) (fun hg=>zAj (as':=[.osl 3,.i x57.1]) (zBY e60).x zB9 J ⟨cv0,cv0,trivial⟩ J J),oB wm,oB wfp,oB wlp,oB wfp,oB wlp,zAr ⟨rfl,rfl,rfl,_,rfl,rfl⟩ (fun hg=>zAD ⟨hg,hg,rfl,trivial⟩) (fun hg=>zAV (zBY (zAz h61 hg)).x zB9 J J),zBe,trivial⟩ (zAD ⟨rfl,trivial⟩) ?_
     refine an<|?_
     refine cnd (fun hc62 hr=>?_) (fun hc62 hr=>?_)
     ·refine sq<|rg<|V vm<|V vfp<|V vlp<|?_
      refine V (zAM (t:=.i) (qs:=[(0,[.i x46.1])]) (ys:=[x46.1]) bs33 J J J J J J J J)<|?_
      obtain ⟨h63,hr⟩:=zAN hr
      refine zAK (zAh J J zCt J J J h63 J ?_)
      refine V va<|?_
      obtain rfl:=Option.some.inj hr
      exact zAJ (zAZ (zAH ((zBF J) (zAF (⟨rfl,(zAA hX [0,6,2,3] 4 J J wS wO)⟩)))))
     refine sk<|bn<|an<|rg<|V vad<|V vm<|?_
     obtain rfl:=Option.some.inj hr
     exact zAJ ((zAA hX [0,1,2,3,4] 4 J J wS wO))
    obtain rfl:=zA8 hc56 ho
    exact zAH (zAF (⟨rfl,(zAA hX [0,1,2,3] 4 J J wS wO)⟩))
   ·rintro ⟨s42,s43⟩ rfl
    refine rg<|V vad<|V vm<|?_
    obtain rfl:=Option.some.inj hr
    exact zAJ ((zAA hX [0,1,2,3] 4 J J wS wO))
   exact fun r h e st hne hx=>hx.elim
  obtain rfl:=zA8 hc41 ho
  exact zAH (zAF (⟨rfl,(zAA hX [0,1,3] 4 J J wS wO)⟩))
 rintro ⟨s4,s5,s6⟩ o hr
 refine sq<|sq<|rg<|V vm<|nl<|an<|?_
 refine cnd (fun hc64 hr=>?_) (fun hc64 hr=>?_)
 ·obtain ⟨o74,e75,hr⟩:=zA hr
  refine sk<|an<|bl<|sq<|rg<|V va<|nl<|an<|sq<|rg<|V vm<|V vnr<|V vfr<|V vlr<|V vnl<|V vm<|nl<|an<|bl<|?_
  refine zAb (t:=33) J (fun hl=>?_)
  refine zAI (List.length p0.2.2.1 : Int) (f90_b4 p0 p2) (fun p=>match p with | (i65,s66,s68,s69)=>(⟨[(0,.rp (R80 p0)),(2,.i p2),(6,.nils),(7,.nils),(8,.nils),(9,.osl 0),(10,.osl 1),(11,.bool s66),(33,.sl Y5 p0.2.2.1),(34,.i (List.length p0.2.2.1 : Int)),(35,.i i65)],[(0,.sl 3 .i s68),(1,.sl 3 .i s69)],2⟩ : AS)) (fun o e st=>match o with | .inr _=>False | .inl (s66,s68,s69)=>e=.exit 2∧Wk X st ⟨[(0,.rp (R80 p0)),(2,.i p2),(6,.nils),(7,.nils),(8,.nils),(9,.osl 0),(10,.osl 1),(11,.bool s66)],[(0,.sl 3 .i s68),(1,.sl 3 .i s69)],2⟩) (zAf hl) e75 (by exact zAA hX [0,1] 4 J J wS wO) ?_ ?_
  ·intro e st hx
   rcases o74 with ⟨s66,s68,s69⟩ | _
   ·obtain ⟨rfl,hw⟩:=hx
    obtain rfl:=Option.some.inj hr
    exact zAl (zAS ((Wk.trans hw (zAA hX [0,1] 4 J J wS wO))))
   exact hx.elim
  rintro i65 ⟨s66,s68,s69⟩ o ho
  refine sq<|rg<|V vls<|nl<|an<|sq<|?_
  refine zAO (b:=decide (i65 < (List.length p0.2.2.1 : Int))) J (fun hc76=>?_) (fun hc76=>?_)
  ·obtain ⟨q,hr,rfl⟩:=zA7 hc76 ho
   obtain ⟨x77,e78,hr⟩:=zA hr
   obtain ⟨x79,e80,hr⟩:=zA hr
   obtain ⟨o90,e91,hr⟩:=zA hr
   refine sk<|an<|sq<|bl<|sq<|rg<|V (zAQ (t:=Y5) (e:=x77) (undX 78 J) (szX 42 J) J J e78)<|V vlR<|O oa<|O os<|nl<|an<|sq<|rg<|V vm<|V vfp<|V vlp<|?_
   refine V (zAV (f81_runs e80).x ent81 J J)<|V vm<|V vx<|V vx<|O oa<|O os<|V va<|nl<|an<|sq<|rg<|V vfp<|V vlp<|V vnl<|V vm<|nl<|an<|bl<|?_
   refine zAb (t:=47) J (fun hl=>?_)
   refine zAI (List.length x77.2.2 : Int) (f90_b5 p2 x77 x79) (fun p=>match p with | (i81,s82,s84,s85)=>(⟨[(0,.rp (R80 p0)),(2,.i p2),(6,.nils),(7,.nils),(8,.nils),(9,.osl 0),(10,.osl 1),(11,.bool s82),(13,.ptr 2 0),(14,.ptr 3 0),(33,.sl Y5 p0.2.2.1),(34,.i (List.length p0.2.2.1 : Int)),(35,.i i65),(47,.sl .i x77.2.2),(48,.i (List.length x77.2.2 : Int)),(49,.i i81)],[(0,.sl 3 .i s84),(1,.sl 3 .i s85),(2,.var 42 [.i x77.1,.str x77.2.1,.sl .i x77.2.2]),(3,.var 47 [.str x79.1.1,.sl Y1 x79.1.2])],4⟩ : AS)) (fun o e st=>match o with | .inr _=>False | .inl (s82,s84,s85)=>e=.exit 4∧Wk X st ⟨[(0,.rp (R80 p0)),(2,.i p2),(6,.nils),(7,.nils),(8,.nils),(9,.osl 0),(10,.osl 1),(11,.bool s82),(33,.sl Y5 p0.2.2.1),(34,.i (List.length p0.2.2.1 : Int)),(35,.i i65)],[(0,.sl 3 .i s84),(1,.sl 3 .i s85)],2⟩) (zAf hl) e91 (by exact zAA hX [0,1,2,3] 4 J J wS wO) ?_ ?_
   ·intro e st hx
    rcases o90 with ⟨s82,s84,s85⟩ | _
    ·obtain ⟨rfl,hw⟩:=hx
     refine bh<|bn<|an<|(zAY hw)<|rg<|V vad<|V vm<|?_
     obtain rfl:=Option.some.inj hr
     exact zAJ ((zAA hX [0,1] 4 J J wS wO))
    exact hx.elim
   rintro i81 ⟨s82,s84,s85⟩ o ho
   refine sq<|rg<|V vls<|nl<|an<|sq<|?_
   refine zAO (b:=decide (i81 < (List.length x77.2.2 : Int))) J (fun hc92=>?_) (fun hc92=>?_)
   ·obtain ⟨q,hr,rfl⟩:=zA7 hc92 ho
    obtain ⟨o96,e97,hr⟩:=zA hr
    refine sk<|an<|?_
    refine zAy (S:=Bool×List Int×List Int) (R:=Unit) (fun s=>match s with | (s93,s94,s95)=>(⟨[(0,.rp (R80 p0)),(2,.i p2),(6,.nils),(7,.nils),(8,.nils),(9,.osl 0),(10,.osl 1),(11,.bool s93),(13,.ptr 2 0),(14,.ptr 3 0),(33,.sl Y5 p0.2.2.1),(34,.i (List.length p0.2.2.1 : Int)),(35,.i i65),(47,.sl .i x77.2.2),(48,.i (List.length x77.2.2 : Int)),(49,.i i81)],[(0,.sl 3 .i s94),(1,.sl 3 .i s95),(2,.var 42 [.i x77.1,.str x77.2.1,.sl .i x77.2.2]),(3,.var 47 [.str x79.1.1,.sl Y1 x79.1.2])],4⟩ : AS)) (fun _ _ _=>False) e97 (fun hr=>?_) ?_ ?_
    ·obtain ⟨x98,e99,hr⟩:=zA hr
     obtain ⟨x100,e101,hr⟩:=zA hr
     obtain ⟨x102,e103,hr⟩:=zA hr
     obtain ⟨x104,e105,hr⟩:=zA hr
     refine bl<|sq<|rg<|V vm<|?_
     refine V (zAQ (t:=.i) (e:=x98) (undX 33 J) (szX 3 J) J J e99)<|V vlr<|V va<|V va<|nl<|an<|sq<|rg<|V vfp<|V vlp<|V vm<|?_
     refine V (zAQ (t:=Y1) (e:=x100) (undX 45 J) (szX 49 J) J J e101)<|V vlR<|V vm<|?_
     refine V (zAV (f117_runs e103).x ent117 J J)<|V va<|nl<|an<|sq<|sq<|?_
     refine zAa [0,2,6,7,8,9,10,11,13,14,33,34,35,47,48,49,17,18] [(true,.osl 0),(true,.i x98),(true,.bool x104),(true,.bool (!x104)),(true,.bool (!x104)),(!(!x104),.i x102),(!(!x104),.bool (decide (x102=3))),(true,.bool ((!x104)||(decide (x102=3))))] [[],[],[0,1],[2],[3],[4],[5,4],[6,4]] [7] J J J J J ⟨oB wm,oB wm,zAr J (fun hg=>zAD ⟨rfl,rfl,trivial⟩) (fun hg=>zAj (as':=[.osl 0,.i x98]) (zBY e105).x zB9 J ⟨cv0,cv0,trivial⟩ J J),oB wno,oB wm,oB wm,oB weq,zBr,trivial⟩ (zAD ⟨rfl,trivial⟩) ?_
     refine an<|?_
     refine cnd (fun hc106 hr=>?_) (fun hc106 hr=>?_)
     ·obtain rfl:=Option.some.inj hr
      exact zAH (zAF (zAl ((zAA hX [0,1,2,3] 4 J J wS wO))))
     obtain ⟨o109,e110,hr⟩:=zA hr
     refine sk<|an<|?_
     refine zAy (S:=Bool×List Int) (R:=Unit) (fun s=>match s with | (s107,s108)=>(⟨[(0,.rp (R80 p0)),(2,.i p2),(6,.nils),(7,.nils),(8,.nils),(9,.osl 0),(10,.osl 1),(11,.bool s107),(13,.ptr 2 0),(14,.ptr 3 0),(18,.i x102),(33,.sl Y5 p0.2.2.1),(34,.i (List.length p0.2.2.1 : Int)),(35,.i i65),(47,.sl .i x77.2.2),(48,.i (List.length x77.2.2 : Int)),(49,.i i81)],[(0,.sl 3 .i s84),(1,.sl 3 .i s108),(2,.var 42 [.i x77.1,.str x77.2.1,.sl .i x77.2.2]),(3,.var 47 [.str x79.1.1,.sl Y1 x79.1.2])],4⟩ : AS)) (fun _ _ _=>False) e110 (fun hr=>?_) ?_ ?_
     ·obtain ⟨x111,e112,hr⟩:=zA hr
      refine sq<|rg<|V vm<|V vfp<|V vlp<|?_
      refine V (zAj (as':=[.osl 1,.i x77.1]) (zBY e112).x zB9 J ⟨cv0,cv0,trivial⟩ J J)<|V vno<|nl<|an<|?_
      refine cnd (fun hc113 hr=>?_) (fun hc113 hr=>?_)
      ·refine sq<|rg<|V vm<|V vfp<|V vlp<|?_
       refine V (zAM (t:=.i) (qs:=[(0,[.i x77.1])]) (ys:=[x77.1]) bs33 J J J J J J J J)<|?_
       obtain ⟨h114,hr⟩:=zAN hr
       refine zAK (zAh J J zCt J J J h114 J ?_)
       refine V va<|nl<|an<|rg<|V va<|?_
       obtain rfl:=Option.some.inj hr
       exact zAJ ((zAA hX [0,4,2,3] 4 J J wS wO))
      obtain rfl:=Option.some.inj hr
      exact zAv ((zAA hX [0,1,2,3] 4 J J wS wO))
     ·rintro ⟨s107,s108⟩ rfl
      obtain ⟨o122,e123,hr⟩:=zA hr
      refine sq<|rg<|V vfp<|V vlp<|V vnl<|V vm<|nl<|an<|bl<|?_
      refine zAb (t:=47) J (fun hl=>?_)
      refine zAI (List.length x77.2.2 : Int) (f90_b6 x77 x102) (fun p=>match p with | (i115,s116,s118)=>(⟨[(0,.rp (R80 p0)),(2,.i p2),(6,.nils),(7,.nils),(8,.nils),(9,.osl 0),(10,.osl 1),(11,.bool s116),(13,.ptr 2 0),(14,.ptr 3 0),(18,.i x102),(33,.sl Y5 p0.2.2.1),(34,.i (List.length p0.2.2.1 : Int)),(35,.i i65),(47,.sl .i x77.2.2),(48,.i (List.length x77.2.2 : Int)),(49,.i i81),(80,.sl .i x77.2.2),(81,.i (List.length x77.2.2 : Int)),(82,.i i115)],[(0,.sl 3 .i s118),(1,.sl 3 .i s108),(2,.var 42 [.i x77.1,.str x77.2.1,.sl .i x77.2.2]),(3,.var 47 [.str x79.1.1,.sl Y1 x79.1.2])],4⟩ : AS)) (fun o e st=>match o with | .inr _=>False | .inl (s116,s118)=>e=.exit 6∧Wk X st ⟨[(0,.rp (R80 p0)),(2,.i p2),(6,.nils),(7,.nils),(8,.nils),(9,.osl 0),(10,.osl 1),(11,.bool s116),(13,.ptr 2 0),(14,.ptr 3 0),(33,.sl Y5 p0.2.2.1),(34,.i (List.length p0.2.2.1 : Int)),(35,.i i65),(47,.sl .i x77.2.2),(48,.i (List.length x77.2.2 : Int)),(49,.i i81)],[(0,.sl 3 .i s118),(1,.sl 3 .i s108),(2,.var 42 [.i x77.1,.str x77.2.1,.sl .i x77.2.2]),(3,.var 47 [.str x79.1.1,.sl Y1 x79.1.2])],4⟩) (zAf hl) e123 (by exact zAA hX [0,1,2,3] 4 J J wS wO) ?_ ?_
      ·intro e st hx
       rcases o122 with ⟨s116,s118⟩ | _
       ·obtain ⟨rfl,hw⟩:=hx
        obtain rfl:=Option.some.inj hr
        exact zAl (zAS ((Wk.trans hw (zAA hX [0,1,2,3] 4 J J wS wO))))
       exact hx.elim
      rintro i115 ⟨s116,s118⟩ o ho
      refine sq<|rg<|V vls<|nl<|an<|sq<|?_
      refine zAO (b:=decide (i115 < (List.length x77.2.2 : Int))) J (fun hc124=>?_) (fun hc124=>?_)
      ·obtain ⟨q,hr,rfl⟩:=zA7 hc124 ho
       obtain ⟨o127,e128,hr⟩:=zA hr
       refine sk<|an<|?_
       refine zAy (S:=Bool×List Int) (R:=Unit) (fun s=>match s with | (s125,s126)=>(⟨[(0,.rp (R80 p0)),(2,.i p2),(6,.nils),(7,.nils),(8,.nils),(9,.osl 0),(10,.osl 1),(11,.bool s125),(13,.ptr 2 0),(14,.ptr 3 0),(18,.i x102),(33,.sl Y5 p0.2.2.1),(34,.i (List.length p0.2.2.1 : Int)),(35,.i i65),(47,.sl .i x77.2.2),(48,.i (List.length x77.2.2 : Int)),(49,.i i81),(80,.sl .i x77.2.2),(81,.i (List.length x77.2.2 : Int)),(82,.i i115)],[(0,.sl 3 .i s126),(1,.sl 3 .i s108),(2,.var 42 [.i x77.1,.str x77.2.1,.sl .i x77.2.2]),(3,.var 47 [.str x79.1.1,.sl Y1 x79.1.2])],4⟩ : AS)) (fun _ _ _=>False) e128 (fun hr=>?_) ?_ ?_
       ·obtain ⟨x129,e130,hr⟩:=zA hr
        refine bl<|sq<|rg<|V (zAQ (t:=.i) (e:=x129) (undX 33 J) (szX 3 J) J J e130)<|V vlr<|V va<|nl<|an<|sq<|?_
        obtain ⟨h131,hr⟩:=zAN hr
        refine zAa [0,2,6,7,8,9,10,11,13,14,18,33,34,35,47,48,49,80,81,82,20] [(true,.i x102),(true,.bool (decide (x102=1))),(true,.bool (decide (x102=1))),(decide (x102=1),.osl 0),(decide (x102=1),.i x129),(decide (x102=1),.bool ((f15 s118 x129).getD default)),(decide (x102=1),.bool (!((f15 s118 x129).getD default))),(true,.bool ((decide (x102=1))&&(!((f15 s118 x129).getD default))))] [[],[0],[1],[2],[2],[3,4,2],[5,2],[6,2]] [7] J J J J J ⟨oB wm,oB weq,oB wm,oB wm,oB wm,zAr ⟨rfl,rfl,rfl,_,rfl,rfl⟩ (fun hg=>zAD ⟨hg,hg,rfl,trivial⟩) (fun hg=>zAj (as':=[.osl 0,.i x129]) (zBY (zAz h131 hg)).x zB9 J ⟨cv0,cv0,trivial⟩ J J),oB wno,zBe,trivial⟩ (zAD ⟨rfl,trivial⟩) ?_
        refine an<|?_
        refine cnd (fun hc132 hr=>?_) (fun hc132 hr=>?_)
        ·refine sq<|rg<|V vm<|V vm<|?_
         refine V (zAM (t:=.i) (qs:=[(0,[.i x129])]) (ys:=[x129]) bs33 J J J J J J J J)<|?_
         obtain ⟨h133,hr⟩:=zAN hr
         refine zAK (zAh J J zCt J J J h133 J ?_)
         refine V va<|nl<|an<|rg<|V va<|?_
         obtain rfl:=Option.some.inj hr
         exact zAJ (zAS ((zAA hX [4,1,2,3] 4 J J wS wO)))
        obtain rfl:=Option.some.inj hr
        exact zAv (zAS ((zAA hX [0,1,2,3] 4 J J wS wO)))
       ·rintro ⟨s125,s126⟩ rfl
        refine rg<|V vad<|V vm<|?_
        obtain rfl:=Option.some.inj hr
        exact zAJ ((zAA hX [0,1,2,3] 4 J J wS wO))
       exact fun r h e st hne hx=>hx.elim
      obtain rfl:=zA8 hc124 ho
      exact zAH (zAF (⟨rfl,(zAA hX [0,1,2,3] 4 J J wS wO)⟩))
     exact fun r h e st hne hx=>hx.elim
    ·rintro ⟨s93,s94,s95⟩ rfl
     refine rg<|V vad<|V vm<|?_
     obtain rfl:=Option.some.inj hr
     exact zAJ ((zAA hX [0,1,2,3] 4 J J wS wO))
    exact fun r h e st hne hx=>hx.elim
   obtain rfl:=zA8 hc92 ho
   exact zAH (zAF (⟨rfl,(zAA hX [0,1] 4 J J wS wO)⟩))
  obtain rfl:=zA8 hc76 ho
  exact zAH (zAF (⟨rfl,(zAA hX [0,1] 4 J J wS wO)⟩))
 obtain rfl:=Option.some.inj hr
 exact zAH (zAF (⟨rfl,(zAA hX [0,1] 4 J J wS wO)⟩))
theorem f40_runs {p0:ZR}{p1:Int}{p2:Int}{r:Int×List Int×List Int×List Int}(hr:f40 p0 p1 p2=some r) : Runs Tryz.prog 40 [.rp (R80 p0),.i p1,.i p2] [] (fun q Hq=>q=[.osl 0,.osl 1,.osl 2,.i r.1]∧Hq=[.sl 3 .i r.2.1,.sl 3 .i r.2.2.1,.sl 3 .i r.2.2.2]):=by
 refine zAW Tryz.func40 Tryz.ntmps40 J (rs:=[.tmp 6,.tmp 7,.tmp 8,.tmp 9]) J J fun w0 X hX=>?_
 refine sq<|rg<|V va<|V va<|V va<|V va<|nl<|an<|sq<|sq<|?_
 refine zAa [0,1,2,6,7,8,9] [(true,.i p2),(true,.bool (decide (p2 < 1))),(true,.bool (decide (p2 < 1))),(!(decide (p2 < 1)),.i p2),(!(decide (p2 < 1)),.bool (decide (3 < p2))),(true,.bool ((decide (p2 < 1))||(decide (3 < p2)))),(true,.bool ((decide (p2 < 1))||(decide (3 < p2)))),(!((decide (p2 < 1))||(decide (3 < p2))),.i p1),(!((decide (p2 < 1))||(decide (3 < p2))),.bool (decide (p1 < 0))),(true,.bool (((decide (p2 < 1))||(decide (3 < p2)))||(decide (p1 < 0))))] [[],[0],[1],[2],[3,2],[4,2],[5],[6],[7,6],[8,6]] [9] J J J J J ⟨oB wm,oB wls,oB wm,oB wm,oB wgt,zBr,oB wm,oB wm,oB wls,zBr,trivial⟩ (zAD ⟨rfl,trivial⟩) ?_
 refine an<|?_
 refine cnd (fun hc4 hr=>?_) (fun hc4 hr=>?_)
 ·refine sq<|rg<|V va<|V va<|V va<|V va<|?_
  obtain rfl:=Option.some.inj hr
  exact nl<|an<|cr<|zAC (zAe (l':=[(6,.osl 0),(7,.osl 1),(8,.osl 2),(9,.i 7)]) (Hs:=[(0,.sl 3 .i ([] : List Int)),(1,.sl 3 .i ([] : List Int)),(2,.sl 3 .i ([] : List Int))]) (n:=3) (Wk.trans (zAt (t:=6) 3 .i J) (Wk.trans (zAt (t:=7) 3 .i J) (Wk.trans (zAt (t:=8) 3 .i J) (zAA hX [0,1,2] 4 J J wS wO)))) J J J ⟨rfl,rfl,rfl,rfl,trivial⟩)
 obtain ⟨x5,e6,hr⟩:=zA hr
 refine sk<|an<|sq<|sq<|rg<|V vm<|V vm<|?_
 refine V (zAV (f82_runs e6).x ent82 J J)<|V vno<|nl<|an<|?_
 refine cnd (fun hc7 hr=>?_) (fun hc7 hr=>?_)
 ·refine sq<|rg<|V va<|V va<|V va<|V va<|?_
  obtain rfl:=Option.some.inj hr
  exact nl<|an<|cr<|zAC (zAe (l':=[(6,.osl 0),(7,.osl 1),(8,.osl 2),(9,.i 8)]) (Hs:=[(0,.sl 3 .i ([] : List Int)),(1,.sl 3 .i ([] : List Int)),(2,.sl 3 .i ([] : List Int))]) (n:=3) (Wk.trans (zAt (t:=6) 3 .i J) (Wk.trans (zAt (t:=7) 3 .i J) (Wk.trans (zAt (t:=8) 3 .i J) (zAA hX [0,1,2] 4 J J wS wO)))) J J J ⟨rfl,rfl,rfl,rfl,trivial⟩)
 obtain ⟨x8,e9,hr⟩:=zA hr
 refine sk<|an<|sq<|rg<|V vm<|V vm<|V vm<|?_
 refine zAK (zAP (σ:=[]) (as':=[.rp (R80 p0),.i p1,.i p2]) (f90_runs e9).x ent90 J ⟨cv0,cv0,cv0,trivial⟩ J J J ?_)
 refine V vm<|V vx<|V vx<|V vx<|V va<|V va<|V va<|nl<|an<|sq<|rg<|V vm<|V vm<|V vm<|V va<|V va<|V va<|V va<|?_
 obtain rfl:=Option.some.inj hr
 exact nl<|an<|cr<|zAe (l':=[(6,.osl 0),(7,.osl 1),(8,.osl 2),(9,.i 0)]) (Hs:=[(0,.sl 3 .i x8.1),(1,.sl 3 .i x8.2.1),(2,.sl 3 .i x8.2.2)]) (n:=3) (zAA hX [0,1,2] 4 J J wS wO) J J J ⟨rfl,rfl,rfl,rfl,trivial⟩
theorem f91_runs {p0:Int}{r:Bool}(hr:f91 p0=some r) : zBb Tryz.prog 91 [.i p0] [.bool r]:=by
 refine zAW Tryz.func91 Tryz.ntmps91 J (rs:=[.tmp 2]) J J fun w0 X hX=>?_
 refine sq<|rg<|V va<|nl<|an<|sq<|?_
 refine zAa [0] [(true,.i p0),(true,.bool (decide (0≤p0))),(true,.bool (decide (0≤p0))),(decide (0≤p0),.i p0),(decide (0≤p0),.bool (decide (p0≤1000))),(true,.bool ((decide (0≤p0))&&(decide (p0≤1000)))),(true,.bool ((decide (0≤p0))&&(decide (p0≤1000))))] [[],[0],[1],[2],[3,2],[4,2],[5]] [6] J J J J J ⟨oB wm,oB wge,oB wm,oB wm,oB wle,zBe,oB wa,trivial⟩ (zAD ⟨rfl,trivial⟩) ?_
 obtain rfl:=Option.some.inj hr
 exact zAZ (zAw (zAk (l':=[(2,.bool ((decide (0≤p0))&&(decide (p0≤1000))))]) (zAA hX [] 4 J J wS trivial) J ⟨rfl,trivial⟩))
theorem f41_runs {p0_0:ZR}{p1:Int}{p2:Int}{r:(List (Int×Int))×(List (Int×Int))×Int×(ZR)}(hr:f41 p0_0 p1 p2=some r) : Runs Tryz.prog 41 [.ptr 0 0,.i p1,.i p2] [.tr E80 (some p0_0)] (fun q Hq=>q=[.sl Y6 r.1,.sl Y6 r.2.1,.i r.2.2.1]∧Hq=[.tr E80 (some r.2.2.2)]):=by
 refine zAW Tryz.func41 Tryz.ntmps41 J (rs:=[.tmp 6,.tmp 7,.tmp 8]) J J fun w0 X hX=>?_
 obtain ⟨x2,e3,hr⟩:=zA hr
 refine sq<|rg<|V va<|V va<|V va<|nl<|an<|sq<|sq<|?_
 refine zAa [0,1,2,6,7,8] [(true,.i p2),(true,.bool x2),(true,.bool (!x2)),(true,.bool (!x2)),(!(!x2),.i p1),(!(!x2),.bool (decide (p1 < 0))),(true,.bool ((!x2)||(decide (p1 < 0))))] [[],[0],[1],[2],[3],[4,3],[5,3]] [6] J J J J J ⟨oB wm,zAr J (fun hg=>zAD ⟨rfl,trivial⟩) (fun hg=>zAV (f91_runs e3).x ent91 J J),oB wno,oB wm,oB wm,oB wls,zBr,trivial⟩ (zAD ⟨rfl,trivial⟩) ?_
 refine an<|?_
 refine cnd (fun hc4 hr=>?_) (fun hc4 hr=>?_)
 ·refine sq<|rg<|V va<|V va<|V va<|?_
  obtain rfl:=Option.some.inj hr
  exact nl<|an<|cr<|zAC (zAe (l':=[(6,.sl Y6 ([] : List (Int×Int))),(7,.sl Y6 ([] : List (Int×Int))),(8,.i 7)]) (Hs:=[(0,.tr E80 (some p0_0))]) (n:=1) (zAA hX [0] 4 J J ⟨⟨_,rfl,cv2⟩,⟨_,rfl,cv2⟩,⟨_,rfl,cv0⟩,trivial⟩ wO) J J J ⟨rfl,rfl,rfl,trivial⟩)
 obtain ⟨x5,e6,hr⟩:=zA hr
 refine sk<|an<|sq<|sq<|rg<|V vm<|V vm<|?_
 refine zAG (zAd (i:=0) [.sl Y2 p0_0.1,.osl 1,.osl 2,.i p0_0.2.2.2.1,.i p0_0.2.2.2.2] [.sl 54 Y4 p0_0.2.1,.sl 42 Y5 p0_0.2.2.1] J J J J)<|V (zAj (as':=[.ptr 0 0,.i p1]) (f82_runs e6).x ent82 J ⟨cv0,cv0,trivial⟩ J J)<|V vno<|nl<|an<|?_
 refine cnd (fun hc7 hr=>?_) (fun hc7 hr=>?_)
 ·refine sq<|rg<|V va<|V va<|V va<|?_
  obtain rfl:=Option.some.inj hr
  exact nl<|an<|cr<|zAC (zAe (l':=[(6,.sl Y6 ([] : List (Int×Int))),(7,.sl Y6 ([] : List (Int×Int))),(8,.i 8)]) (Hs:=[(0,.tr E80 (some p0_0))]) (n:=1) (Wk.trans (pk (i:=0) (e:=F80) (js:=[1,2]) p0_0) (zAA hX [0] 4 J J ⟨⟨_,rfl,cv2⟩,⟨_,rfl,cv2⟩,⟨_,rfl,cv0⟩,trivial⟩ wO)) J J J ⟨rfl,rfl,rfl,trivial⟩)
 obtain ⟨x8,e9,hr⟩:=zA hr
 refine sk<|an<|sq<|rg<|V vm<|V vm<|?_
 refine zAK (zAp (as':=[.ptr 0 0,.i p1,.i 1]) (f90_runs e9).x ent90 J ⟨cv0,cv0,cv0,trivial⟩ J J J ?_)
 obtain ⟨x10,e11,hr⟩:=zA hr
 refine V vm<|V vx<|V vx<|V vx<|V va<|V va<|V va<|nl<|an<|sq<|rg<|V vm<|?_
 refine zAG (pk (i:=0) (e:=F80) (js:=[1,2]) p0_0)<|?_
 refine zAK (zAP (σ:=[0]) (as':=[.ptr 0 0]) (f83_runs e11).x ent83 J ⟨cv0,trivial⟩ J J J ?_)
 obtain ⟨o19,e20,hr⟩:=zA hr
 refine V va<|nl<|an<|sq<|sq<|rg<|V vm<|V vnL<|V vm<|nl<|an<|bl<|?_
 refine zA5 (i:=3) J J (fun hl=>?_)
 refine zAI (List.length x8.1 : Int) (f41_b0 p0_0 p2 x8) (fun p=>match p with | (i12,s14,s15)=>(⟨[(0,.ptr 0 0),(2,.i p2),(6,.osl 1),(7,.nils),(8,.i 0),(10,.osl 2),(12,.ptr 3 0),(46,.osl 4),(47,.i (List.length x8.1 : Int)),(48,.i i12)],[(0,.tr E80 (some p0_0)),(1,.sl 60 Y6 s14),(2,.sl 3 .i x8.2.1),(3,.tr E80 (some s15)),(4,.sl 3 .i x8.1)],5⟩ : AS)) (fun o e st=>match o with | .inr _=>False | .inl (s14,s15)=>e=.exit 0∧Wk X st ⟨[(0,.ptr 0 0),(6,.osl 1),(7,.nils),(8,.i 0),(10,.osl 2),(12,.ptr 3 0)],[(0,.tr E80 (some p0_0)),(1,.sl 60 Y6 s14),(2,.sl 3 .i x8.2.1),(3,.tr E80 (some s15))],4⟩) (zAf hl) e20 (Wk.trans (zAt (t:=6) 60 Y6 J) (by exact zAA hX [0,7,4,6,3] 4 J J wS wO)) ?_ ?_
 ·intro e st hx
  rcases o19 with ⟨s14,s15⟩ | _
  ·obtain ⟨rfl,hw⟩:=hx
   obtain ⟨o28,e29,hr⟩:=zA hr
   refine bh<|an<|(zAY hw)<|sq<|sq<|rg<|V vm<|V vnL<|V vm<|nl<|an<|bl<|?_
   refine zA5 (i:=2) J J (fun hl=>?_)
   refine zAI (List.length x8.2.1 : Int) (f41_b1 p0_0 x8 s14) (fun p=>match p with | (i21,s23,s24)=>(⟨[(0,.ptr 0 0),(6,.osl 1),(7,.osl 2),(8,.i 0),(12,.ptr 3 0),(92,.osl 4),(93,.i (List.length x8.2.1 : Int)),(94,.i i21)],[(0,.tr E80 (some p0_0)),(1,.sl 60 Y6 s14),(2,.sl 60 Y6 s23),(3,.tr E80 (some s24)),(4,.sl 3 .i x8.2.1)],5⟩ : AS)) (fun o e st=>match o with | .inr _=>False | .inl (s23,s24)=>e=.exit 2∧Wk X st ⟨[(0,.ptr 0 0),(6,.osl 1),(7,.osl 2),(8,.i 0),(12,.ptr 3 0)],[(0,.tr E80 (some p0_0)),(1,.sl 60 Y6 s14),(2,.sl 60 Y6 s23),(3,.tr E80 (some s24))],4⟩) (zAf hl) e29 (Wk.trans (zAt (t:=7) 60 Y6 J) (by exact zAA hX [0,1,4,3,2] 4 J J wS wO)) ?_ ?_
   ·intro e st hx
    rcases o28 with ⟨s23,s24⟩ | _
    ·obtain ⟨rfl,hw⟩:=hx
     obtain ⟨x30,e31,hr⟩:=zA hr
     refine bh<|an<|(zAY hw)<|sq<|bl<|sq<|rg<|V vm<|?_
     refine zAG (zAd (i:=3) [.sl Y2 s24.1,.osl 4,.osl 5,.i s24.2.2.2.1,.i s24.2.2.2.2] [.sl 54 Y4 s24.2.1,.sl 42 Y5 s24.2.2.1] J J J J)<|V (zAj (as':=[.ptr 3 0]) (f85_runs e31).x ent85 J ⟨cv0,trivial⟩ J J)<|V va<|nl<|an<|?_
     refine cnd (fun hc32 hr=>?_) (fun hc32 hr=>?_)
     ·refine sq<|rg<|V va<|V va<|V va<|?_
      obtain rfl:=Option.some.inj hr
      exact nl<|an<|cr<|zAE (zAC (zAe (l':=[(6,.sl Y6 ([] : List (Int×Int))),(7,.sl Y6 ([] : List (Int×Int))),(8,.i 9)]) (Hs:=[(0,.tr E80 (some p0_0))]) (n:=1) (zAA hX [0] 4 J J ⟨⟨_,rfl,cv2⟩,⟨_,rfl,cv2⟩,⟨_,rfl,cv0⟩,trivial⟩ wO) J J J ⟨rfl,rfl,rfl,trivial⟩))
     refine sq<|?_
     refine zAa [0,6,7,8,12] [(true,.ptr 3 0),(true,.ptr 3 0),(true,.ptr 3 1),(true,.osl 4),(true,.i (List.length s24.2.1 : Int)),(true,.bool (decide (500 < (List.length s24.2.1 : Int)))),(true,.bool (decide (500 < (List.length s24.2.1 : Int)))),(!(decide (500 < (List.length s24.2.1 : Int))),.ptr 3 0),(!(decide (500 < (List.length s24.2.1 : Int))),.ptr 3 0),(!(decide (500 < (List.length s24.2.1 : Int))),.ptr 3 2),(!(decide (500 < (List.length s24.2.1 : Int))),.osl 5),(!(decide (500 < (List.length s24.2.1 : Int))),.i (List.length s24.2.2.1 : Int)),(!(decide (500 < (List.length s24.2.1 : Int))),.bool (decide (1000 < (List.length s24.2.2.1 : Int)))),(true,.bool ((decide (500 < (List.length s24.2.1 : Int)))||(decide (1000 < (List.length s24.2.2.1 : Int))))),(true,.bool ((decide (500 < (List.length s24.2.1 : Int)))||(decide (1000 < (List.length s24.2.2.1 : Int)))))] [[],[0],[1],[2],[3],[4],[5],[6],[7,6],[8,6],[9,6],[10,6],[11,6],[12,6],[13]] [14] J J J J J ⟨oB wm,oB wnp,oB wfp,oB wlp,zAr J (fun hg=>zAD ⟨rfl,trivial⟩) (fun hg=>zC7 (t:=Y4) J J (undX 52 J) J J),oB wgt,oB wm,oB wm,oB wnp,oB wfp,oB wlp,zAr ⟨rfl,rfl,rfl,_,rfl,rfl⟩ (fun hg=>zAD ⟨hg,rfl,trivial⟩) (fun hg=>zC7 (t:=Y5) J J (undX 78 J) J J),oB wgt,zBr,oB wa,trivial⟩ (zAD ⟨rfl,trivial⟩) ?_
     refine an<|?_
     refine cnd (fun hc33 hr=>?_) (fun hc33 hr=>?_)
     ·refine sq<|rg<|V va<|V va<|V va<|?_
      obtain rfl:=Option.some.inj hr
      exact nl<|an<|cr<|zAE (zAC (zAe (l':=[(6,.sl Y6 ([] : List (Int×Int))),(7,.sl Y6 ([] : List (Int×Int))),(8,.i 4)]) (Hs:=[(0,.tr E80 (some p0_0))]) (n:=1) (zAA hX [0] 4 J J ⟨⟨_,rfl,cv2⟩,⟨_,rfl,cv2⟩,⟨_,rfl,cv0⟩,trivial⟩ wO) J J J ⟨rfl,rfl,rfl,trivial⟩))
     refine sk<|bn<|an<|sq<|rg<|V vm<|V vm<|V vnp<|V vlP<|V vnp<|?_
     refine zAG (zAd (i:=0) [.sl Y2 p0_0.1,.osl 6,.osl 7,.i p0_0.2.2.2.1,.i p0_0.2.2.2.2] [.sl 54 Y4 p0_0.2.1,.sl 42 Y5 p0_0.2.2.1] J J J J)<|O os<|nl<|an<|sq<|rg<|V vm<|V vm<|V va<|V va<|V va<|?_
     obtain rfl:=Option.some.inj hr
     exact nl<|an<|cr<|zAe (l':=[(6,.sl Y6 s14),(7,.sl Y6 s23),(8,.i 0)]) (Hs:=[(0,.tr E80 (some s24))]) (n:=1) (Wk.trans (pk (i:=0) (e:=F80) (js:=[4,5]) s24) (zAA hX [0] 4 J J wS wO)) J J J ⟨rfl,rfl,rfl,trivial⟩
    exact hx.elim
   rintro i21 ⟨s23,s24⟩ o ho
   refine sq<|rg<|V vls<|nl<|an<|sq<|?_
   refine zAO (b:=decide (i21 < (List.length x8.2.1 : Int))) J (fun hc34=>?_) (fun hc34=>?_)
   ·obtain ⟨q,hr,rfl⟩:=zA7 hc34 ho
    obtain ⟨x35,e36,hr⟩:=zA hr
    obtain ⟨x37,e38,hr⟩:=zA hr
    refine sk<|an<|sq<|bl<|sq<|rg<|V (zAn (t:=.i) (undX 33 J) (szX 3 J) J J J e36)<|?_
    refine V (zAu (tsX 3 J) J J J (zCM e36) J)<|V va<|nl<|an<|sq<|rg<|V vm<|V vm<|?_
    refine zAK (zAP (σ:=[0]) (as':=[.ptr 0 0,.i x35]) (f36_runs e38).x ent36 J ⟨cv0,cv0,trivial⟩ J J J ?_)
    obtain ⟨o44,e45,hr⟩:=zA hr
    refine V vm<|V vx<|V vx<|O oa<|O os<|V va<|nl<|an<|sq<|rg<|V va<|nl<|an<|sq<|sq<|rg<|V vfp<|V vlp<|V vnl<|V vm<|nl<|an<|bl<|?_
    refine zAb (t:=105) J (fun hl=>?_)
    refine zAI (List.length x37.1.2.2 : Int) (f41_b2 s14 x37) (fun p=>match p with | (i39,s41)=>(⟨[(0,.ptr 0 0),(6,.osl 1),(7,.osl 2),(8,.i 0),(12,.ptr 3 0),(18,.i x35),(19,.ptr 4 0),(21,.osl 5),(92,.osl 6),(93,.i (List.length x8.2.1 : Int)),(94,.i i21),(105,.sl .i x37.1.2.2),(106,.i (List.length x37.1.2.2 : Int)),(107,.i i39)],[(0,.tr E80 (some p0_0)),(1,.sl 60 Y6 s14),(2,.sl 60 Y6 s23),(3,.tr E80 (some s24)),(4,.var 42 [.i x37.1.1,.str x37.1.2.1,.sl .i x37.1.2.2]),(5,.sl 3 .i s41),(6,.sl 3 .i x8.2.1)],7⟩ : AS)) (fun o e st=>match o with | .inr _=>False | .inl s41=>e=.exit 4∧Wk X st ⟨[(0,.ptr 0 0),(6,.osl 1),(7,.osl 2),(8,.i 0),(12,.ptr 3 0),(18,.i x35),(19,.ptr 4 0),(21,.osl 5),(92,.osl 6),(93,.i (List.length x8.2.1 : Int)),(94,.i i21)],[(0,.tr E80 (some p0_0)),(1,.sl 60 Y6 s14),(2,.sl 60 Y6 s23),(3,.tr E80 (some s24)),(4,.var 42 [.i x37.1.1,.str x37.1.2.1,.sl .i x37.1.2.2]),(5,.sl 3 .i s41),(6,.sl 3 .i x8.2.1)],7⟩) (zAf hl) e45 (Wk.trans (zAt (t:=21) 3 .i J) (by exact zAA hX [0,1,2,3,5,6,4] 4 J J wS wO)) ?_ ?_
    ·intro e st hx
     rcases o44 with s41 | _
     ·obtain ⟨rfl,hw⟩:=hx
      refine bh<|an<|(zAY hw)<|sq<|rg<|V vm<|V vm<|V vm<|V vnp<|V vfp<|?_
      refine zAG (zAd (i:=3) [.sl Y2 s24.1,.osl 7,.osl 8,.i s24.2.2.2.1,.i s24.2.2.2.2] [.sl 54 Y4 s24.2.1,.sl 42 Y5 s24.2.2.1] J J J J)<|V vlp<|?_
      refine V (zAs (qs:=[(0,[.i x35]),(1,[.i s24.2.2.2.2])]) (cs:=[.i x35,.i s24.2.2.2.2]) bt60 J J J)<|?_
      refine V (zAM (t:=Y6) (qs:=[(0,[.i x35,.i s24.2.2.2.2])]) (ys:=[(x35,s24.2.2.2.2)]) bs57 J J J J J J J J)<|?_
      obtain ⟨h46,hr⟩:=zAN hr
      refine zAK (zAh J J app57 J J J h46 J ?_)
      obtain ⟨x47,e48,hr⟩:=zA hr
      refine V va<|nl<|an<|rg<|V vm<|V vfp<|V vlp<|V vm<|?_
      refine zAG (wk_frz [21,141] 5 J J J)<|zAG (pk (i:=3) (e:=F80) (js:=[7,8]) s24)<|?_
      refine zAK (zAP (σ:=[3]) (as':=[.ptr 3 0,.str x37.1.2.1,.sl .i s41]) (f84_runs e48).x ent84 J ⟨cv0,cv0,cv0,trivial⟩ J J J ?_)
      refine nl<|bn<|an<|rg<|V vad<|V vm<|?_
      obtain rfl:=Option.some.inj hr
      exact zAJ ((zAA hX [0,1,9,3,6] 4 J J wS wO))
     exact hx.elim
    rintro i39 s41 o ho
    refine sq<|rg<|V vls<|nl<|an<|sq<|?_
    refine zAO (b:=decide (i39 < (List.length x37.1.2.2 : Int))) J (fun hc49=>?_) (fun hc49=>?_)
    ·obtain ⟨q,hr,rfl⟩:=zA7 hc49 ho
     obtain ⟨x50,e51,hr⟩:=zA hr
     obtain ⟨o55,e56,hr⟩:=zA hr
     refine sk<|an<|sq<|bl<|sq<|rg<|V (zAQ (t:=.i) (e:=x50) (undX 33 J) (szX 3 J) J J e51)<|V vlr<|V va<|nl<|an<|sq<|sq<|rg<|V vm<|V vnL<|V vm<|nl<|an<|bl<|?_
     refine zA5 (i:=1) J J (fun hl=>?_)
     refine zAI (List.length s14 : Int) (f41_b3 s14 x50) (fun p=>match p with | (i52,())=>(⟨[(0,.ptr 0 0),(6,.osl 1),(7,.osl 2),(8,.i 0),(12,.ptr 3 0),(18,.i x35),(19,.ptr 4 0),(21,.osl 5),(23,.i x50),(92,.osl 6),(93,.i (List.length x8.2.1 : Int)),(94,.i i21),(105,.sl .i x37.1.2.2),(106,.i (List.length x37.1.2.2 : Int)),(107,.i i39),(111,.osl 1),(112,.i (List.length s14 : Int)),(113,.i i52)],[(0,.tr E80 (some p0_0)),(1,.sl 60 Y6 s14),(2,.sl 60 Y6 s23),(3,.tr E80 (some s24)),(4,.var 42 [.i x37.1.1,.str x37.1.2.1,.sl .i x37.1.2.2]),(5,.sl 3 .i s41),(6,.sl 3 .i x8.2.1)],7⟩ : AS)) (fun o e st=>match o with | .inl ()=>e=.exit 6∧Wk X st ⟨[(0,.ptr 0 0),(6,.osl 1),(7,.osl 2),(8,.i 0),(12,.ptr 3 0),(18,.i x35),(19,.ptr 4 0),(21,.osl 5),(23,.i x50),(92,.osl 6),(93,.i (List.length x8.2.1 : Int)),(94,.i i21),(105,.sl .i x37.1.2.2),(106,.i (List.length x37.1.2.2 : Int)),(107,.i i39)],[(0,.tr E80 (some p0_0)),(1,.sl 60 Y6 s14),(2,.sl 60 Y6 s23),(3,.tr E80 (some s24)),(4,.var 42 [.i x37.1.1,.str x37.1.2.1,.sl .i x37.1.2.2]),(5,.sl 3 .i s41),(6,.sl 3 .i x8.2.1)],7⟩ | .inr s54=>e=.exit 6∧Wk X st ⟨[(0,.ptr 0 0),(6,.osl 1),(7,.osl 2),(8,.i 0),(12,.ptr 3 0),(18,.i x35),(19,.ptr 4 0),(21,.osl 5),(23,.i s54),(92,.osl 6),(93,.i (List.length x8.2.1 : Int)),(94,.i i21),(105,.sl .i x37.1.2.2),(106,.i (List.length x37.1.2.2 : Int)),(107,.i i39)],[(0,.tr E80 (some p0_0)),(1,.sl 60 Y6 s14),(2,.sl 60 Y6 s23),(3,.tr E80 (some s24)),(4,.var 42 [.i x37.1.1,.str x37.1.2.1,.sl .i x37.1.2.2]),(5,.sl 3 .i s41),(6,.sl 3 .i x8.2.1)],7⟩) (zAf hl) e56 (by exact zAA hX [0,1,2,3,4,5,6] 4 J J wS wO) ?_ ?_
     ·intro e st hx
      rcases o55 with _ | s54
      ·obtain ⟨rfl,hw⟩:=hx
       refine bh<|an<|(zAY hw)<|rg<|V vm<|V vm<|?_
       refine V (zAM (t:=.i) (qs:=[(0,[.i x50])]) (ys:=[x50]) bs33 J J J J J J J J)<|?_
       obtain ⟨h57,hr⟩:=zAN hr
       refine zAK (zAh J J zCt J J J h57 J ?_)
       refine V va<|nl<|bn<|an<|rg<|V vad<|V vm<|?_
       obtain rfl:=Option.some.inj hr
       exact zAJ ((zAA hX [0,1,2,3,4,7,6] 4 J J wS wO))
      obtain ⟨rfl,hw⟩:=hx
      refine bh<|an<|(zAY hw)<|rg<|V vm<|V vm<|?_
      refine V (zAM (t:=.i) (qs:=[(0,[.i s54])]) (ys:=[s54]) bs33 J J J J J J J J)<|?_
      obtain ⟨h58,hr⟩:=zAN hr
      refine zAK (zAh J J zCt J J J h58 J ?_)
      refine V va<|nl<|bn<|an<|rg<|V vad<|V vm<|?_
      obtain rfl:=Option.some.inj hr
      exact zAJ ((zAA hX [0,1,2,3,4,7,6] 4 J J wS wO))
     rintro i52 _ o ho
     refine sq<|rg<|V vls<|nl<|an<|sq<|?_
     refine zAO (b:=decide (i52 < (List.length s14 : Int))) J (fun hc59=>?_) (fun hc59=>?_)
     ·obtain ⟨q,hr,rfl⟩:=zA7 hc59 ho
      obtain ⟨x60,e61,hr⟩:=zA hr
      refine sk<|an<|sq<|bl<|sq<|rg<|V (zAn (t:=Y6) (undX 57 J) (szX 60 J) J J J e61)<|?_
      refine V (zB5 (tsX 60 J) J J J (zCM e61) J J)<|O oa<|O os<|nl<|an<|sq<|rg<|?_
      refine V (zBz (undX 60 J) (szX 3 J) J J J J)<|V vlp<|V vm<|V veq<|nl<|an<|?_
      refine cnd (fun hc62 hr=>?_) (fun hc62 hr=>?_)
      ·refine sq<|rg<|V (zBz (undX 60 J) (szX 3 J) J J J J)<|V vlp<|V va<|?_
       obtain rfl:=Option.some.inj hr
       exact zAJ (zAZ (zAH ((zBF J) (zAF (⟨rfl,(zAA hX [0,1,2,3,4,5,6] 4 J J wS wO)⟩)))))
      refine sk<|bn<|an<|rg<|V vad<|V vm<|?_
      obtain rfl:=Option.some.inj hr
      exact zAJ ((zAA hX [0,1,2,3,4,5,6] 4 J J wS wO))
     obtain rfl:=zA8 hc59 ho
     exact zAH (zAF (⟨rfl,(zAA hX [0,1,2,3,4,5,6] 4 J J wS wO)⟩))
    obtain rfl:=zA8 hc49 ho
    exact zAH (zAF (⟨rfl,(zAA hX [0,1,2,3,4,5,6] 4 J J wS wO)⟩))
   obtain rfl:=zA8 hc34 ho
   exact zAH (zAF (⟨rfl,(zAA hX [0,1,2,3] 4 J J wS wO)⟩))
  exact hx.elim
 rintro i12 ⟨s14,s15⟩ o ho
 refine sq<|rg<|V vls<|nl<|an<|sq<|?_
 refine zAO (b:=decide (i12 < (List.length x8.1 : Int))) J (fun hc63=>?_) (fun hc63=>?_)
 ·obtain ⟨q,hr,rfl⟩:=zA7 hc63 ho
  obtain ⟨x64,e65,hr⟩:=zA hr
  obtain ⟨x66,e67,hr⟩:=zA hr
  refine sk<|an<|sq<|bl<|sq<|rg<|V (zAn (t:=.i) (undX 33 J) (szX 3 J) J J J e65)<|?_
  refine V (zAu (tsX 3 J) J J J (zCM e65) J)<|V va<|nl<|an<|sq<|rg<|V vm<|V vm<|?_
  refine zAG (zAd (i:=0) [.sl Y2 p0_0.1,.osl 5,.osl 6,.i p0_0.2.2.2.1,.i p0_0.2.2.2.2] [.sl 54 Y4 p0_0.2.1,.sl 42 Y5 p0_0.2.2.1] J J J J)<|V (zBD (as':=[.ptr 0 0,.i x64]) (Hs:=[]) (f35_runs e67).x ent35 J ⟨cv0,cv0,trivial⟩ J J J)<|V vm<|V vx<|V vx<|O oa<|O os<|V va<|nl<|an<|sq<|rg<|V vm<|V vm<|V vm<|V vnp<|V vfp<|?_
  refine zAG (zAd (i:=3) [.sl Y2 s15.1,.osl 8,.osl 9,.i s15.2.2.2.1,.i s15.2.2.2.2] [.sl 54 Y4 s15.2.1,.sl 42 Y5 s15.2.2.1] J J J J)<|V vlp<|?_
  refine V (zAs (qs:=[(0,[.i x64]),(1,[.i s15.2.2.2.1])]) (cs:=[.i x64,.i s15.2.2.2.1]) bt60 J J J)<|?_
  refine V (zAM (t:=Y6) (qs:=[(0,[.i x64,.i s15.2.2.2.1])]) (ys:=[(x64,s15.2.2.2.1)]) bs57 J J J J J J J J)<|?_
  obtain ⟨h68,hr⟩:=zAN hr
  refine zAK (zAh J J app57 J J J h68 J ?_)
  refine V va<|nl<|an<|sq<|?_
  obtain ⟨h69,hr⟩:=zAN hr
  refine zCV (st2:=⟨[(0,.ptr 0 0),(2,.i p2),(6,.osl 10),(7,.nils),(8,.i 0),(10,.osl 2),(12,.ptr 3 0),(46,.osl 4),(47,.i (List.length x8.1 : Int)),(48,.i i12),(81,.osl 11)],[(0,.var 80 [.sl Y2 p0_0.1,.osl 5,.osl 6,.i p0_0.2.2.2.1,.i p0_0.2.2.2.2]),(1,.dead),(2,.sl 3 .i x8.2.1),(3,.var 80 [.sl Y2 s15.1,.osl 8,.osl 9,.i s15.2.2.2.1,.i s15.2.2.2.2]),(4,.sl 3 .i x8.1),(5,.sl 54 Y4 p0_0.2.1),(6,.sl 42 Y5 p0_0.2.2.1),(7,.var 54 [.i x66.1.1,.i x66.1.2.1,.str x66.1.2.2]),(8,.dead),(9,.sl 42 Y5 s15.2.2.1),(10,.sl 60 Y6 (s14++[(x64,s15.2.2.2.1)])),(11,.sl 54 Y4 (s15.2.1++[(s15.2.2.2.1,p2,x66.1.2.2)]))],12⟩) 14 [0] [0,2,3,4,14,6,7,8,12,12,11,12,13,14] [[],[],[],[],[],[],[],[],[],[],[],[],[],[]] mixed [0,2,6,7,8,10,12,46,47,48,15] [(true,.ptr 3 0),(true,.ptr 3 0),(true,.ptr 3 0),(true,.ptr 3 1),(true,.osl 8),(true,.ptr 3 0),(true,.ptr 3 0),(true,.ptr 3 3),(true,.i s15.2.2.2.1),(true,.i p2),(true,.ptr 7 2),(true,.str x66.1.2.2),(true,.agg [.i s15.2.2.2.1,.i p2,.str x66.1.2.2]),(true,.sl Y4 [(s15.2.2.2.1,p2,x66.1.2.2)])] [[],[],[1],[2],[3],[],[5],[6],[7],[],[],[10],[8,9,11],[12]] [4,13] [0,2,6,7,8,10,12,46,47,48,81] rfl rfl rfl rfl rfl rfl rfl rfl rfl rfl rfl rfl ⟨oB wm,oB wm,oB wnp,oB wfp,oB wlp,oB wm,oB wnp,oB wfp,oB wlp,oB wm,oB wfp,oB wlp,zAr rfl (fun hg=>zAD ⟨rfl,rfl,rfl,trivial⟩) (fun hg=>zAs (qs:=[(0,[.i s15.2.2.2.1]),(1,[.i p2]),(2,[.str x66.1.2.2])]) (cs:=[.i s15.2.2.2.1,.i p2,.str x66.1.2.2]) bt54 rfl rfl rfl),zAr rfl (fun hg=>zAD ⟨rfl,trivial⟩) (fun hg=>zAM (t:=Y4) (qs:=[(0,[.i s15.2.2.2.1,.i p2,.str x66.1.2.2])]) (ys:=[(s15.2.2.2.1,p2,x66.1.2.2)]) bs52 rfl rfl rfl rfl rfl rfl rfl rfl),trivial⟩ (zAD ⟨rfl,rfl,trivial⟩) rfl ⟨(fun X' o ho=>by obtain rfl:=Option.some.inj ho; exact zAg rfl),trivial⟩ rfl (fun X'=>zAh rfl rfl app52 rfl rfl rfl h69 rfl ⟨⟨rfl,rfl,rfl,rfl,rfl,rfl,rfl,rfl,rfl,rfl,rfl,trivial⟩,⟨rfl,rfl,rfl,rfl,rfl,rfl,rfl,rfl,rfl,rfl,rfl,rfl,trivial⟩,rfl⟩) ?_
  refine V vnp<|V vfp<|O os<|nl<|an<|rg<|V vm<|V vnp<|V vfp<|V vlp<|V vad<|V vnp<|V vfp<|O os<|nl<|bn<|an<|rg<|V vad<|V vm<|?_
  obtain rfl:=Option.some.inj hr
  exact zAJ ((Wk.trans (pk (i:=0) (e:=F80) (js:=[5,6]) p0_0) (Wk.trans (pk (i:=3) (e:=F80) (js:=[11,9]) (s15.1,(s15.2.1++[(s15.2.2.2.1,p2,x66.1.2.2)]),s15.2.2.1,(w64 (s15.2.2.2.1+1)),s15.2.2.2.2)) (zAA hX [0,10,2,3,4] 4 J J wS wO))))
 obtain rfl:=zA8 hc63 ho
 exact zAH (zAF (⟨rfl,(zAA hX [0,1,2,3] 4 J J wS wO)⟩))
theorem eq60 {a0 b0:Int}{a1 b1:Int} : EqT Tryz.prog 60 [.int .i64 a0,.int .i64 a1] [.int .i64 b0,.int .i64 b1]:=⟨by kernel_rfl,fun w=>run_eqArr (e:=3) (n:=2) (by kernel_rfl) (by kernel_rfl) (by kernel_rfl) (by kernel_rfl) (by kernel_rfl) (by kernel_rfl)⟩
theorem fv91_0 : FieldV Tryz.prog 91 0 0 false 1:=fieldV_of' (fs:=Tryz.prog.fieldsOf 91) (by kernel_rfl) (by kernel_rfl) (tsX 89 J) (by decide)
theorem f42_runs {p0:List (Int×Int)}{p1:List (Int×Int)}{r:Bool}(hr:f42 p0 p1=some r) : zBb Tryz.prog 42 [.sl Y6 p0,.sl Y6 p1] [.bool r]:=by
 refine zAW Tryz.func42 Tryz.ntmps42 J (rs:=[.tmp 4]) J J fun w0 X hX=>?_
 refine sq<|rg<|V va<|nl<|an<|sq<|sq<|rg<|V vm<|V vnl<|V vm<|V vnl<|V vne<|nl<|an<|?_
 refine cnd (fun hc1 hr=>?_) (fun hc1 hr=>?_)
 ·refine sq<|rg<|V va<|?_
  obtain rfl:=Option.some.inj hr
  exact nl<|an<|cr<|zAC (zAk (l':=[(4,.bool false)]) (zAA hX [] 4 J J wS trivial) J ⟨rfl,trivial⟩)
 obtain ⟨o4,e5,hr⟩:=zA hr
 refine sk<|an<|sq<|sq<|rg<|V vm<|V vnl<|V vm<|nl<|an<|bl<|?_
 refine zAb (t:=0) J (fun hl=>?_)
 refine zAI (List.length p0 : Int) (f42_b0 p0 p1) (fun p=>match p with | (i2,())=>(⟨[(0,.sl Y6 p0),(1,.sl Y6 p1),(4,.bool false),(12,.i (List.length p0 : Int)),(13,.i i2)],[],0⟩ : AS)) (fun o e st=>match o with | .inl ()=>e=.exit 0∧Wk X st ⟨[(4,.bool false)],[],0⟩ | .inr ()=>e=.ret∧Wk X st ⟨[(4,.bool false)],[],0⟩) (zAf hl) e5 (by exact zAA hX [] 4 J J wS trivial) ?_ ?_
 ·intro e st hx
  rcases o4 with _ | _
  ·obtain ⟨rfl,hw⟩:=hx
   refine bh<|an<|(zAY hw)<|sq<|rg<|V va<|?_
   obtain rfl:=Option.some.inj hr
   exact nl<|an<|cr<|zAk (l':=[(4,.bool true)]) (zAA hX [] 4 J J wS trivial) J ⟨rfl,trivial⟩
  obtain ⟨rfl,hw⟩:=hx
  obtain rfl:=Option.some.inj hr
  exact zAE (zAC (zAk (l':=[(4,.bool false)]) (Wk.trans hw (zAA hX [] 4 J J wS trivial)) J ⟨rfl,trivial⟩))
 rintro i2 _ o ho
 refine sq<|rg<|V vls<|nl<|an<|sq<|?_
 refine zAO (b:=decide (i2 < (List.length p0 : Int))) J (fun hc6=>?_) (fun hc6=>?_)
 ·obtain ⟨q,hr,rfl⟩:=zA7 hc6 ho
  obtain ⟨x7,e8,hr⟩:=zA hr
  obtain ⟨x9,e10,hr⟩:=zA hr
  refine sk<|an<|sq<|bl<|sq<|rg<|V vm<|V va<|nl<|an<|sq<|?_
  refine zBE mixed [0,1,4,12,13,5] [(true,.sl Y6 p0),(true,.i i2),(true,.rp [.i x7.1,.i x7.2]),(true,.agg [.i x7.1,.i x7.2]),(true,.sl Y6 p1),(true,.i i2),(true,.rp [.i x9.1,.i x9.2]),(true,.agg [.i x9.1,.i x9.2]),(true,.bool (!((decide (x7.1=x9.1))&&(decide (x7.2=x9.2)))))] [[],[],[0,1],[2],[],[],[4,5],[6],[3,7]] [8] J J J J J ⟨oB wm,oB wm,zAr J (fun hg=>zAD ⟨rfl,rfl,trivial⟩) (fun hg=>zAQ (t:=Y6) (e:=x7) (undX 57 J) (szX 60 J) J J e8),oB wlR,oB wm,oB wm,zAr J (fun hg=>zAD ⟨rfl,rfl,trivial⟩) (fun hg=>zAQ (t:=Y6) (e:=x9) (undX 57 J) (szX 60 J) J J e10),oB wlR,zAr J (fun hg=>zAD ⟨rfl,rfl,trivial⟩) (fun hg=>av_neqA (r:=(decide (x7.1=x9.1))&&(decide (x7.2=x9.2))) eq60 J J J J J J),trivial⟩ (zAD ⟨rfl,trivial⟩) ?_
  refine an<|?_
  refine cnd (fun hc11 hr=>?_) (fun hc11 hr=>?_)
  ·refine sq<|rg<|V va<|?_
   obtain rfl:=Option.some.inj hr
   exact nl<|an<|cr<|zAE (zAC (⟨rfl,(zAA hX [] 4 J J wS trivial)⟩))
  refine sk<|bn<|an<|rg<|V vad<|V vm<|?_
  obtain rfl:=Option.some.inj hr
  exact zAJ ((zAA hX [] 4 J J wS trivial))
 obtain rfl:=zA8 hc6 ho
 exact zAH (zAF (⟨rfl,(zAA hX [] 4 J J wS trivial)⟩))
theorem f43_runs {p0_0:ZW}{p1:Int}{p2:Int}{r:List Int×Int×(ZW)}(hr:f43 p0_0 p1 p2=some r) : Runs Tryz.prog 43 [.ptr 0 0,.i p1,.i p2] [.tr E76 (some p0_0)] (fun q Hq=>q=[.sl .i r.1,.i r.2.1]∧Hq=[.tr E76 (some r.2.2)]):=by
 refine zAW Tryz.func43 Tryz.ntmps43 J (rs:=[.tmp 6,.tmp 7]) J J fun w0 X hX=>?_
 obtain ⟨x2,e3,hr⟩:=zA hr
 refine sq<|rg<|V va<|V va<|nl<|an<|sq<|sq<|rg<|V vm<|V vm<|V vm<|?_
 refine zAG (zAd (i:=0) (W76 p0_0 1 2) [.map .i Y4 p0_0.2.1,.map .i Y5 p0_0.2.2.1] J J J J)<|V (zAj (as':=[.ptr 0 0,.i p1,.i p2]) (f58_runs e3).x ent58 J ⟨cv0,cv0,cv0,trivial⟩ J J)<|V va<|nl<|an<|sq<|rg<|V vm<|V vne<|nl<|an<|?_
 refine cnd (fun hc4 hr=>?_) (fun hc4 hr=>?_)
 ·refine sq<|rg<|V vm<|V va<|V va<|?_
  obtain rfl:=Option.some.inj hr
  exact nl<|an<|cr<|zAC (zAe (l':=[(6,.sl .i ([] : List Int)),(7,.i x2)]) (Hs:=[(0,.tr E76 (some p0_0))]) (n:=1) (Wk.trans (pk (i:=0) (e:=F76) (js:=[1,2]) p0_0) (zAA hX [0] 4 J J ⟨⟨_,rfl,cv2⟩,⟨_,rfl,cv0⟩,trivial⟩ wO)) J J J ⟨rfl,rfl,trivial⟩)
 obtain ⟨x5,e6,hr⟩:=zA hr
 refine sk<|an<|sq<|rg<|V vm<|V vm<|?_
 refine zAK (zAp (as':=[.ptr 0 0,.i p1,.i 2]) (f51_runs e6).x ent51 J ⟨cv0,cv0,cv0,trivial⟩ J J J ?_)
 obtain ⟨x7,e8,hr⟩:=zA hr
 refine V (av_field fv91_0 J J)<|?_
 refine zAK (zAp (as':=[.map 3]) (zCU e8).x ent52 J ⟨cv0,trivial⟩ J J J ?_)
 obtain ⟨o14,e15,hr⟩:=zA hr
 refine V va<|nl<|an<|sq<|sq<|rg<|V vm<|V vnL<|V vm<|nl<|an<|bl<|?_
 refine zA5 (i:=6) J J (fun hl=>?_)
 refine zAI (List.length x7 : Int) (f43_b0 p2 x7) (fun p=>match p with | (i9,s11)=>(⟨[(0,.ptr 0 0),(2,.i p2),(6,.nils),(7,.i 0),(9,.osl 1),(25,.osl 1),(26,.i (List.length x7 : Int)),(27,.i i9)],[(0,.tr E76 (some s11)),(1,.sl 3 .i x7)],2⟩ : AS)) (fun o e st=>match o with | .inr _=>False | .inl s11=>e=.exit 0∧Wk X st ⟨[(6,.nils),(7,.i 0),(9,.osl 1)],[(0,.tr E76 (some s11)),(1,.sl 3 .i x7)],2⟩) (zAf hl) e15 (Wk.trans (pk (i:=0) (e:=F76) (js:=[1,2]) p0_0) (by exact zAA hX [0,6] 4 J J wS wO)) ?_ ?_
 ·intro e st hx
  rcases o14 with s11 | _
  ·obtain ⟨rfl,hw⟩:=hx
   refine bh<|an<|(zAY hw)<|sq<|rg<|V vm<|V va<|V va<|?_
   obtain rfl:=Option.some.inj hr
   exact nl<|an<|cr<|zAe (l':=[(6,.sl .i x7),(7,.i 0)]) (Hs:=[(0,.tr E76 (some s11))]) (n:=1) (zAA hX [0] 4 J J wS wO) J J J ⟨rfl,rfl,trivial⟩
  exact hx.elim
 rintro i9 s11 o ho
 refine sq<|rg<|V vls<|nl<|an<|sq<|?_
 refine zAO (b:=decide (i9 < (List.length x7 : Int))) J (fun hc16=>?_) (fun hc16=>?_)
 ·obtain ⟨q,hr,rfl⟩:=zA7 hc16 ho
  obtain ⟨x17,e18,hr⟩:=zA hr
  refine sk<|an<|sq<|bl<|sq<|rg<|V (zAn (t:=.i) (undX 33 J) (szX 3 J) J J J e18)<|?_
  refine V (zAu (tsX 3 J) J J J (zCM e18) J)<|V va<|nl<|an<|sq<|rg<|V vm<|V vnp<|V vfp<|?_
  refine zAG (zAd (i:=0) (W76 s11 2 3) [.map .i Y4 s11.2.1,.map .i Y5 s11.2.2.1] J J J J)<|V vlp<|V vm<|?_
  refine V (zBG (kx:=x17) (r:=.agg [.i ((((mget s11.2.1 x17).getD (0,0,([] : Str)))).1),.i (((((mget s11.2.1 x17).getD (0,0,([] : Str)))).2).1),.str (((((mget s11.2.1 x17).getD (0,0,([] : Str)))).2).2)]) (undX 73 J) kt3 zw54 J J J J J)<|O oa<|O os<|nl<|an<|sq<|rg<|V vm<|V vfp<|O os<|nl<|an<|?_
  refine zB0 6 [6,6,6,6,6,6] mixed [0,2,6,7,9,25,26,27,11,12] [(true,.ptr 0 0),(true,.ptr 0 0),(true,.ptr 0 1),(true,.map 2),(true,.i x17),(true,.agg [.i ((((mget s11.2.1 x17).getD (0,0,([] : Str)))).1),.i p2,.str (((((mget s11.2.1 x17).getD (0,0,([] : Str)))).2).2)])] [[],[0],[1],[2],[],[]] [3,4,5] J J J J J J J J ⟨oB wm,oB wnp,oB wfp,oB wlp,oB wm,oB wlP,trivial⟩ (zAD ⟨rfl,rfl,rfl,trivial⟩) ?_
  refine zAK (zB (kx:=x17) (vx:=((((mget s11.2.1 x17).getD (0,0,([] : Str)))).1,p2,((((mget s11.2.1 x17).getD (0,0,([] : Str)))).2).2)) (undX 73 J) kt3 (.inl J) J J J J J J J ?_)
  refine nl<|bn<|an<|rg<|V vad<|V vm<|?_
  obtain rfl:=Option.some.inj hr
  exact zAJ ((Wk.trans (pk (i:=0) (e:=F76) (js:=[2,3]) (s11.1,(mset s11.2.1 x17 ((((mget s11.2.1 x17).getD (0,0,([] : Str)))).1,p2,((((mget s11.2.1 x17).getD (0,0,([] : Str)))).2).2)),s11.2.2.1,s11.2.2.2.1,s11.2.2.2.2)) (zAA hX [0,1] 4 J J wS wO)))
 obtain rfl:=zA8 hc16 ho
 exact zAH (zAF (⟨rfl,(zAA hX [0,1] 4 J J wS wO)⟩))
theorem f44_runs {p0_0:ZR}{p1:Int}{p2:Int}{r:List Int×Int×(ZR)}(hr:f44 p0_0 p1 p2=some r) : Runs Tryz.prog 44 [.ptr 0 0,.i p1,.i p2] [.tr E80 (some p0_0)] (fun q Hq=>q=[.sl .i r.1,.i r.2.1]∧Hq=[.tr E80 (some r.2.2)]):=by
 refine zAW Tryz.func44 Tryz.ntmps44 J (rs:=[.tmp 6,.tmp 7]) J J fun w0 X hX=>?_
 obtain ⟨x2,e3,hr⟩:=zA hr
 refine sq<|rg<|V va<|V va<|nl<|an<|sq<|sq<|?_
 refine zAa [0,1,2,6,7] [(true,.i p2),(true,.bool x2),(true,.bool (!x2)),(true,.bool (!x2)),(!(!x2),.i p1),(!(!x2),.bool (decide (p1 < 0))),(true,.bool ((!x2)||(decide (p1 < 0))))] [[],[0],[1],[2],[3],[4,3],[5,3]] [6] J J J J J ⟨oB wm,zAr J (fun hg=>zAD ⟨rfl,trivial⟩) (fun hg=>zAV (f91_runs e3).x ent91 J J),oB wno,oB wm,oB wm,oB wls,zBr,trivial⟩ (zAD ⟨rfl,trivial⟩) ?_
 refine an<|?_
 refine cnd (fun hc4 hr=>?_) (fun hc4 hr=>?_)
 ·refine sq<|rg<|V va<|V va<|?_
  obtain rfl:=Option.some.inj hr
  exact nl<|an<|cr<|zAC (zAe (l':=[(6,.sl .i ([] : List Int)),(7,.i 7)]) (Hs:=[(0,.tr E80 (some p0_0))]) (n:=1) (zAA hX [0] 4 J J ⟨⟨_,rfl,cv2⟩,⟨_,rfl,cv0⟩,trivial⟩ wO) J J J ⟨rfl,rfl,trivial⟩)
 obtain ⟨x5,e6,hr⟩:=zA hr
 refine sk<|an<|sq<|sq<|rg<|V vm<|V vm<|?_
 refine zAG (zAd (i:=0) [.sl Y2 p0_0.1,.osl 1,.osl 2,.i p0_0.2.2.2.1,.i p0_0.2.2.2.2] [.sl 54 Y4 p0_0.2.1,.sl 42 Y5 p0_0.2.2.1] J J J J)<|V (zAj (as':=[.ptr 0 0,.i p1]) (f82_runs e6).x ent82 J ⟨cv0,cv0,trivial⟩ J J)<|V vno<|nl<|an<|?_
 refine cnd (fun hc7 hr=>?_) (fun hc7 hr=>?_)
 ·refine sq<|rg<|V va<|V va<|?_
  obtain rfl:=Option.some.inj hr
  exact nl<|an<|cr<|zAC (zAe (l':=[(6,.sl .i ([] : List Int)),(7,.i 8)]) (Hs:=[(0,.tr E80 (some p0_0))]) (n:=1) (Wk.trans (pk (i:=0) (e:=F80) (js:=[1,2]) p0_0) (zAA hX [0] 4 J J ⟨⟨_,rfl,cv2⟩,⟨_,rfl,cv0⟩,trivial⟩ wO)) J J J ⟨rfl,rfl,trivial⟩)
 obtain ⟨x8,e9,hr⟩:=zA hr
 refine sk<|an<|sq<|rg<|V vm<|V vm<|?_
 refine zAK (zAp (as':=[.ptr 0 0,.i p1,.i 2]) (f90_runs e9).x ent90 J ⟨cv0,cv0,cv0,trivial⟩ J J J ?_)
 obtain ⟨o15,e16,hr⟩:=zA hr
 refine V vm<|V vx<|V vx<|V vx<|V va<|V va<|V va<|nl<|an<|sq<|sq<|rg<|V vm<|V vnp<|V vfp<|V vlp<|V vnL<|V vm<|nl<|an<|bl<|?_
 refine zA5 (i:=1) J J (fun hl=>?_)
 refine zAI (List.length p0_0.2.1 : Int) (f44_b0 p2 x8) (fun p=>match p with | (i10,s12)=>(⟨[(0,.ptr 0 0),(2,.i p2),(6,.nils),(7,.i 0),(8,.osl 1),(34,.osl 2),(35,.i (List.length p0_0.2.1 : Int)),(36,.i i10)],[(0,.var 80 [.sl Y2 p0_0.1,.osl 2,.osl 3,.i p0_0.2.2.2.1,.i p0_0.2.2.2.2]),(1,.sl 3 .i x8.1),(2,.sl 54 Y4 s12),(3,.sl 42 Y5 p0_0.2.2.1)],4⟩ : AS)) (fun o e st=>match o with | .inr _=>False | .inl s12=>e=.exit 0∧Wk X st ⟨[(6,.nils),(7,.i 0),(8,.osl 1)],[(0,.var 80 [.sl Y2 p0_0.1,.osl 2,.osl 3,.i p0_0.2.2.2.1,.i p0_0.2.2.2.2]),(1,.sl 3 .i x8.1),(2,.sl 54 Y4 s12),(3,.sl 42 Y5 p0_0.2.2.1)],4⟩) (zAf hl) e16 (by exact zAA hX [0,3,1,2] 4 J J wS wO) ?_ ?_
 ·intro e st hx
  rcases o15 with s12 | _
  ·obtain ⟨rfl,hw⟩:=hx
   refine bh<|an<|(zAY hw)<|sq<|rg<|V vm<|V va<|V va<|?_
   obtain rfl:=Option.some.inj hr
   exact nl<|an<|cr<|zAe (l':=[(6,.sl .i x8.1),(7,.i 0)]) (Hs:=[(0,.tr E80 (some (p0_0.1,s12,p0_0.2.2.1,p0_0.2.2.2.1,p0_0.2.2.2.2)))]) (n:=1) (Wk.trans (pk (i:=0) (e:=F80) (js:=[2,3]) (p0_0.1,s12,p0_0.2.2.1,p0_0.2.2.2.1,p0_0.2.2.2.2)) (zAA hX [0] 4 J J wS wO)) J J J ⟨rfl,rfl,trivial⟩
  exact hx.elim
 rintro i10 s12 o ho
 refine sq<|rg<|V vls<|nl<|an<|sq<|?_
 refine zAO (b:=decide (i10 < (List.length p0_0.2.1 : Int))) J (fun hc17=>?_) (fun hc17=>?_)
 ·obtain ⟨q,hr,rfl⟩:=zA7 hc17 ho
  obtain ⟨o19,e20,hr⟩:=zA hr
  refine sk<|an<|?_
  refine zAy (S:=(List (Int×Int×Str))) (R:=Unit) (fun s=>match s with | s18=>(⟨[(0,.ptr 0 0),(2,.i p2),(6,.nils),(7,.i 0),(8,.osl 1),(34,.osl 2),(35,.i (List.length p0_0.2.1 : Int)),(36,.i i10)],[(0,.var 80 [.sl Y2 p0_0.1,.osl 2,.osl 3,.i p0_0.2.2.2.1,.i p0_0.2.2.2.2]),(1,.sl 3 .i x8.1),(2,.sl 54 Y4 s18),(3,.sl 42 Y5 p0_0.2.2.1)],4⟩ : AS)) (fun _ _ _=>False) e20 (fun hr=>?_) ?_ ?_
  ·obtain ⟨x21,e22,hr⟩:=zA hr
   obtain ⟨x23,e24,hr⟩:=zA hr
   refine bl<|sq<|rg<|V vm<|?_
   refine V (zAn (t:=Y4) (undX 52 J) (szX 54 J) J J J e22)<|?_
   refine V (zB5 (tsX 54 J) J J J (zCM e22) J J)<|O oa<|V va<|O os<|nl<|an<|sq<|rg<|V vm<|V vfp<|V vlp<|?_
   refine V (zAj (as':=[.osl 1,.i x21.1]) (zBY e24).x zB9 J ⟨cv0,cv0,trivial⟩ J J)<|nl<|an<|?_
   refine cnd (fun hc25 hr=>?_) (fun hc25 hr=>?_)
   ·refine rg<|V vm<|V vnp<|V vfp<|V vlp<|V vm<|V vm<|?_
    refine V (zAn (t:=Y4) (undX 52 J) (szX 54 J) J J J e22)<|?_
    refine V (av_fa_ep (faX 54 1 J) J J)<|?_
    refine zAK (aop_store_ep (e':=(x21.1,p2,x21.2.2)) (szX 3 J) J J J J (zCM e22) J J J J J ?_)
    obtain rfl:=Option.some.inj hr
    exact zAJ (zAS ((zAA hX [0,1,2,3] 4 J J wS wO)))
   obtain rfl:=Option.some.inj hr
   exact zAv (zAS ((zAA hX [0,1,2,3] 4 J J wS wO)))
  ·rintro s18 rfl
   refine rg<|V vad<|V vm<|?_
   obtain rfl:=Option.some.inj hr
   exact zAJ ((zAA hX [0,1,2,3] 4 J J wS wO))
  exact fun r h e st hne hx=>hx.elim
 obtain rfl:=zA8 hc17 ho
 exact zAH (zAF (⟨rfl,(zAA hX [0,1,2,3] 4 J J wS wO)⟩))
theorem f67_runs {p0:Int}{p1:List (Int×Bool)×List (Int×Bool)×List (Int×Bool)}{r:Bool}(hr:f67 p0 p1=some r) : zBb Tryz.prog 67 [.i p0,.rp [.dm .i .bool p1.1,.dm .i .bool p1.2.1,.dm .i .bool p1.2.2]] [.bool r]:=by
 refine zAW Tryz.func67 Tryz.ntmps67 J (rs:=[.tmp 3]) J J fun w0 X hX=>?_
 refine sq<|rg<|V va<|nl<|an<|sq<|rg<|V vfr<|V vlr<|V vm<|?_
 refine V (zBA (kx:=p0) (r:=.bool ((mget p1.1 p0).getD false)) (undX 89 J) kt3 zw4 J J J J)<|V va<|?_
 obtain rfl:=Option.some.inj hr
 exact nl<|an<|cr<|zAk (l':=[(3,.bool ((mget p1.1 p0).getD false))]) (zAA hX [] 4 J J wS trivial) J ⟨rfl,trivial⟩
theorem f69_runs {p0:Int}{p1:Int×Str×List Int}{p2:List (Int×Bool)×List (Int×Bool)×List (Int×Bool)}{r:Bool}(hr:f69 p0 p1 p2=some r) : zBb Tryz.prog 69 [.i p0,.agg [.i p1.1,.str p1.2.1,.sl .i p1.2.2],.rp [.dm .i .bool p2.1,.dm .i .bool p2.2.1,.dm .i .bool p2.2.2]] [.bool r]:=by
 refine zAW Tryz.func69 Tryz.ntmps69 J (rs:=[.tmp 5]) J J fun w0 X hX=>?_
 refine sq<|rg<|O ob<|V va<|nl<|an<|sq<|rg<|V vfr<|V vlr<|V vm<|?_
 refine V (zBA (kx:=p0) (r:=.bool ((mget p2.2.1 p0).getD false)) (undX 89 J) kt3 zw4 J J J J)<|V va<|?_
 obtain rfl:=Option.some.inj hr
 exact nl<|an<|cr<|zAk (l':=[(5,.bool ((mget p2.2.1 p0).getD false))]) (zAA hX [] 4 J J wS trivial) J ⟨rfl,trivial⟩
theorem f68_runs {p0_0:List (Int×(Int×Str×List Int))}{q1:Int→(Int×Str×List Int)→Option Bool}{r:(List (Int×(Int×Str×List Int)))}{g1:FuncId}{c1s:List AV}(h_q1:∀ (y1:Int) (y2:Int×Str×List Int) (r:Bool),q1 y1 y2=some r→zBb Tryz.prog g1 ([.i y1,.agg [.i y2.1,.str y2.2.1,.sl .i y2.2.2]]++c1s) [.bool r]) (k_q1:FnIn Tryz.prog g1 c1s) (hr:f68 p0_0 q1=some r) : Runs Tryz.prog 68 [.map 0,.clo (.fn g1 [] c1s)] [.map .i Y5 p0_0] (fun q Hq=>q=[]∧Hq=[.map .i Y5 r]):=by
 refine zAW Tryz.func68 Tryz.ntmps68 J (rs:=[]) J J fun w0 X hX=>?_
 refine sq<|rg<|V vm<|?_
 refine zAK (zCW (undX 74 J) J J (fun xs2 hp3=>?_))
 obtain ⟨o8,e9,hr⟩:=zA hr
 refine nl<|an<|bl<|?_
 refine awc_ndR (i:=0) J J (fun hn17=>?_)
 refine zCi (S:=(List (Int×(Int×Str×List Int)))) (R:=Unit) (f68_m0 q1) (fun p=>match p with | (l4,c5,s6)=>(⟨[(0,.map 0),(1,.clo (.fn g1 [] c1s)),(7,.map 1)],[(0,.mapr .i Y5 s6 l4 c5 1),(1,.dead)],2⟩ : AS)) (fun o e st=>match o with | .inr _=>False | .inl s6=>e=.exit 0∧Wk X st ⟨[],[(0,.map .i Y5 s6)],1⟩) (K:=fun r=>f68_m0_q r o8) (f68_m0_o hn17 e9) hp3 (by exact zAA hX [0,1] 4 J J wS wO) ?_ ?_
 ·intro r hq e st hx
  rcases o8 with s6 | o8
  ·rcases r with s6z | r
   ·have hq : s6z.Perm s6:=hq
    obtain ⟨rfl,hw⟩:=hx
    obtain rfl:=Option.some.inj hr
    exact zAl (zCz (zAe (l':=[]) (Hs:=[(0,.map .i Y5 s6)]) (n:=1) (Wk.trans (Wk.trans hw (wk_perm (i:=0) J J hq)) (zAA hX [0] 4 J J trivial wO)) J J J trivial))
   exact hq.elim
  rcases r with r | r
  ·exact hq.elim
  exact hx.elim
 rintro l4 c5 s6 K' hr
 refine sq<|rg<|?_
 refine zAK (zCr (i:=0) J J J (fun h13=>?_) (fun q10 p11 hq12=>?_))
 ·have hk:=hr.1 h13
  refine V vx<|?_
  exact zAJ (zAZ (awc_seq (zA3 J (zAH (zAF (⟨_,hk,rfl,(Wk.trans (wk_endr (i:=0) J J) (zAA hX [0] 4 J J trivial wO))⟩))))))
 obtain ⟨o,hr,hk⟩:=hr.2 q10 p11 hq12
 obtain ⟨x14,e15,hr⟩:=zA hr
 refine V vx<|nl<|an<|sq<|?_
 refine zCZ rfl<|sk<|an<|bl<|sq<|rg<|V (zCq (i:=0) J J J J)<|V vx<|V vx<|O oa<|V va<|O os<|nl<|an<|sq<|rg<|V vm<|V vm<|V vlP<|?_
 refine V (av_callq J (h_q1 p11.1 p11.2 x14 e15).x k_q1 J J J)<|nl<|an<|?_
 refine cnd (fun hc16 hr=>?_) (fun hc16 hr=>?_)
 ·refine rg<|V vm<|V vm<|?_
  refine zAK (aop_mapDelR J J J (undX 74 J) kt3 J J J J ?_)
  obtain rfl:=Option.some.inj hr
  exact zAJ (zAS (⟨_,hk none,(zAA hX [0,1] 4 J J wS wO)⟩))
 obtain rfl:=Option.some.inj hr
 exact zAv (zAS (⟨_,hk (some p11),(zAA hX [0,1] 4 J J wS wO)⟩))
theorem f71_runs {p0:Int}{p1:Int×Int×Str}{p2:List (Int×Bool)×List (Int×Bool)×List (Int×Bool)}{r:Bool}(hr:f71 p0 p1 p2=some r) : zBb Tryz.prog 71 [.i p0,.agg [.i p1.1,.i p1.2.1,.str p1.2.2],.rp [.dm .i .bool p2.1,.dm .i .bool p2.2.1,.dm .i .bool p2.2.2]] [.bool r]:=by
 refine zAW Tryz.func71 Tryz.ntmps71 J (rs:=[.tmp 5]) J J fun w0 X hX=>?_
 refine sq<|rg<|O ob<|V va<|nl<|an<|sq<|rg<|V vfr<|V vlr<|V vm<|?_
 refine V (zBA (kx:=p0) (r:=.bool ((mget p2.1 p0).getD false)) (undX 89 J) kt3 zw4 J J J J)<|V va<|?_
 obtain rfl:=Option.some.inj hr
 exact nl<|an<|cr<|zAk (l':=[(5,.bool ((mget p2.1 p0).getD false))]) (zAA hX [] 4 J J wS trivial) J ⟨rfl,trivial⟩
theorem f70_runs {p0_0:List (Int×(Int×Int×Str))}{q1:Int→(Int×Int×Str)→Option Bool}{r:(List (Int×(Int×Int×Str)))}{g1:FuncId}{c1s:List AV}(h_q1:∀ (y1:Int) (y2:Int×Int×Str) (r:Bool),q1 y1 y2=some r→zBb Tryz.prog g1 ([.i y1,.agg [.i y2.1,.i y2.2.1,.str y2.2.2]]++c1s) [.bool r]) (k_q1:FnIn Tryz.prog g1 c1s) (hr:f70 p0_0 q1=some r) : Runs Tryz.prog 70 [.map 0,.clo (.fn g1 [] c1s)] [.map .i Y4 p0_0] (fun q Hq=>q=[]∧Hq=[.map .i Y4 r]):=by
 refine zAW Tryz.func70 Tryz.ntmps70 J (rs:=[]) J J fun w0 X hX=>?_
 refine sq<|rg<|V vm<|?_
 refine zAK (zCW (undX 73 J) J J (fun xs2 hp3=>?_))
 obtain ⟨o8,e9,hr⟩:=zA hr
 refine nl<|an<|bl<|?_
 refine awc_ndR (i:=0) J J (fun hn17=>?_)
 refine zCi (S:=(List (Int×(Int×Int×Str)))) (R:=Unit) (f70_m0 q1) (fun p=>match p with | (l4,c5,s6)=>(⟨[(0,.map 0),(1,.clo (.fn g1 [] c1s)),(7,.map 1)],[(0,.mapr .i Y4 s6 l4 c5 1),(1,.dead)],2⟩ : AS)) (fun o e st=>match o with | .inr _=>False | .inl s6=>e=.exit 0∧Wk X st ⟨[],[(0,.map .i Y4 s6)],1⟩) (K:=fun r=>f70_m0_q r o8) (f70_m0_o hn17 e9) hp3 (by exact zAA hX [0,1] 4 J J wS wO) ?_ ?_
 ·intro r hq e st hx
  rcases o8 with s6 | o8
  ·rcases r with s6z | r
   ·have hq : s6z.Perm s6:=hq
    obtain ⟨rfl,hw⟩:=hx
    obtain rfl:=Option.some.inj hr
    exact zAl (zCz (zAe (l':=[]) (Hs:=[(0,.map .i Y4 s6)]) (n:=1) (Wk.trans (Wk.trans hw (wk_perm (i:=0) J J hq)) (zAA hX [0] 4 J J trivial wO)) J J J trivial))
   exact hq.elim
  rcases r with r | r
  ·exact hq.elim
  exact hx.elim
 rintro l4 c5 s6 K' hr
 refine sq<|rg<|?_
 refine zAK (zCr (i:=0) J J J (fun h13=>?_) (fun q10 p11 hq12=>?_))
 ·have hk:=hr.1 h13
  refine V vx<|?_
  exact zAJ (zAZ (awc_seq (zA3 J (zAH (zAF (⟨_,hk,rfl,(Wk.trans (wk_endr (i:=0) J J) (zAA hX [0] 4 J J trivial wO))⟩))))))
 obtain ⟨o,hr,hk⟩:=hr.2 q10 p11 hq12
 obtain ⟨x14,e15,hr⟩:=zA hr
 refine V vx<|nl<|an<|sq<|?_
 refine zCZ rfl<|sk<|an<|bl<|sq<|rg<|V (zCq (i:=0) J J J J)<|V vx<|V vx<|O oa<|V va<|O os<|nl<|an<|sq<|rg<|V vm<|V vm<|V vlP<|?_
 refine V (av_callq J (h_q1 p11.1 p11.2 x14 e15).x k_q1 J J J)<|nl<|an<|?_
 refine cnd (fun hc16 hr=>?_) (fun hc16 hr=>?_)
 ·refine rg<|V vm<|V vm<|?_
  refine zAK (aop_mapDelR J J J (undX 73 J) kt3 J J J J ?_)
  obtain rfl:=Option.some.inj hr
  exact zAJ (zAS (⟨_,hk none,(zAA hX [0,1] 4 J J wS wO)⟩))
 obtain rfl:=Option.some.inj hr
 exact zAv (zAS (⟨_,hk (some p11),(zAA hX [0,1] 4 J J wS wO)⟩))
end Go.Ab
